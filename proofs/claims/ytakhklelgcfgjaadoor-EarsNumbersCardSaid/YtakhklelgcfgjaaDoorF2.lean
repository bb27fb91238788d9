/- The staged forms of functions 18, 19, 52, 63, 66, 65, 68, 76, 78, 64, 33, 67, 83, 85, 79, 80, and what calls of these answer. -/
import Derived.Test.YtakhklelgcfgjaaDoorSx
namespace Go.AM
open Go.Proofs

noncomputable def f18 (rec : Rec) (_k : Nat) (v0 : Value) (h0 : H) : Option (Value × H) :=
  len v0 fun n0 =>
  sli Tryd.prog h0 23 v0 none (some (.int .i64 (imin n0 14))) none fun v1 =>
  calls rec h0 52 [v1] fun v2 h1 =>
  some (v2, h1)

theorem e18 (rec : Rec) (k : Nat) (v0 : Value) (h : H) : bodyT Tryd.prog E0 SC (XC Tryd.prog rec k) 18 (Value × H) [.opq v0] h (fun v h => some (v, h)) = f18 rec k v0 h := by kernel_rfl
theorem t18 {k : Nat} {v0 : Value} {h h1 : H} {v : Value} (hh : f18 rn k v0 h = some (v, h1)) : rn 18 #[v0] h = some (v, trunc Tryd.prog h h1 v) :=
  run_of_bodyT (args := [.opq v0]) rfl ((e18 _ _ _ _).trans hh)
theorem p18 {k : Nat} {v0 : Value} {h h1 : H} {v : Value} (hh : f18 rn k v0 h = some (v, h1)) (hp : plainO v = true) (x : Ext h h1) : rn 18 #[v0] h = some (v, h) := by rw [t18 hh, trunc_pure hp x]
theorem x18 {k : Nat} {v0 : Value} {h h1 : H} {v : Value} (hh : f18 rn k v0 h = some (v, h1)) (hp : plainO v = false) : ∃ h2, rn 18 #[v0] h = some (v, h2) ∧ Sm h1 h2 ∧ (Ext h h1 → Exw h h2) := trunc_cell hp (t18 hh)
theorem y18 {k : Nat} {v0 : Value} {h : H} {v : Value} (hh : f18 rn k v0 h = some (v, h)) : rn 18 #[v0] h = some (v, h) := by rw [t18 hh, trunc_self]

noncomputable def f19 (rec : Rec) (_k : Nat) (v0 : Value) (h0 : H) : Option (Value × H) :=
  calls rec h0 66 [v0, (.int .i64 10)] fun v1 h1 =>
  asB v1 fun q0 =>
  some ((.bool q0), h1)

theorem e19 (rec : Rec) (k : Nat) (v0 : Value) (h : H) : bodyT Tryd.prog E0 SC (XC Tryd.prog rec k) 19 (Value × H) [.opq v0] h (fun v h => some (v, h)) = f19 rec k v0 h := by kernel_rfl
theorem t19 {k : Nat} {v0 : Value} {h h1 : H} {v : Value} (hh : f19 rn k v0 h = some (v, h1)) : rn 19 #[v0] h = some (v, trunc Tryd.prog h h1 v) :=
  run_of_bodyT (args := [.opq v0]) rfl ((e19 _ _ _ _).trans hh)
theorem p19 {k : Nat} {v0 : Value} {h h1 : H} {v : Value} (hh : f19 rn k v0 h = some (v, h1)) (hp : plainO v = true) (x : Ext h h1) : rn 19 #[v0] h = some (v, h) := by rw [t19 hh, trunc_pure hp x]
theorem x19 {k : Nat} {v0 : Value} {h h1 : H} {v : Value} (hh : f19 rn k v0 h = some (v, h1)) (hp : plainO v = false) : ∃ h2, rn 19 #[v0] h = some (v, h2) ∧ Sm h1 h2 ∧ (Ext h h1 → Exw h h2) := trunc_cell hp (t19 hh)
theorem y19 {k : Nat} {v0 : Value} {h : H} {v : Value} (hh : f19 rn k v0 h = some (v, h)) : rn 19 #[v0] h = some (v, h) := by rw [t19 hh, trunc_self]

noncomputable def f52 (_rec : Rec) (_k : Nat) (v0 : Value) (h0 : H) : Option (Value × H) :=
  eqv Tryd.prog 23 v0 (.slice none 0 0) fun q0 =>
  ifB q0 (
    some ((.slice none 0 0), h0)) (
    bls Tryd.prog h0 23 0 [] fun v1 h1 =>
    app Tryd.prog h1 23 23 v1 v0 fun v2 h2 =>
    some (v2, h2))

theorem e52 (rec : Rec) (k : Nat) (v0 : Value) (h : H) : bodyT Tryd.prog E0 SC (XC Tryd.prog rec k) 52 (Value × H) [.opq v0] h (fun v h => some (v, h)) = f52 rec k v0 h := by kernel_rfl
theorem t52 {k : Nat} {v0 : Value} {h h1 : H} {v : Value} (hh : f52 rn k v0 h = some (v, h1)) : rn 52 #[v0] h = some (v, trunc Tryd.prog h h1 v) :=
  run_of_bodyT (args := [.opq v0]) rfl ((e52 _ _ _ _).trans hh)
theorem p52 {k : Nat} {v0 : Value} {h h1 : H} {v : Value} (hh : f52 rn k v0 h = some (v, h1)) (hp : plainO v = true) (x : Ext h h1) : rn 52 #[v0] h = some (v, h) := by rw [t52 hh, trunc_pure hp x]
theorem x52 {k : Nat} {v0 : Value} {h h1 : H} {v : Value} (hh : f52 rn k v0 h = some (v, h1)) (hp : plainO v = false) : ∃ h2, rn 52 #[v0] h = some (v, h2) ∧ Sm h1 h2 ∧ (Ext h h1 → Exw h h2) := trunc_cell hp (t52 hh)
theorem y52 {k : Nat} {v0 : Value} {h : H} {v : Value} (hh : f52 rn k v0 h = some (v, h)) : rn 52 #[v0] h = some (v, h) := by rw [t52 hh, trunc_self]

noncomputable def f63_l2 (_rec : Rec) (_k : Nat) (v0 : Value) (n0 : Int) (ws0 : List Value) (n4 : Int) (ws1 : List Value) (h2 : H) : Option (Ex × List Value × H) :=
  asI .i64 (gv ws1 2) fun n6 =>
  ifB (lt n6 n0) (
    asK (gv ws1 2) fun n7 =>
    nn n7 (
      asK (gv ws1 2) fun n8 =>
      six v0 n8 1 fun b2 b3 =>
      ld Tryd.prog h2 3 b2 b3 fun v2 =>
      asI .i64 v2 fun n9 =>
      asK (gv ws0 2) fun n10 =>
      nn n10 (
        ifB (not (eq (and .i64 (shr .i64 n4 n7) 1) (and .i64 (shr .i64 n9 n10) 1))) (
          out .ret [(.slice none 0 0), (.bool false), gv ws1 2] h2) (
          asI .i64 (gv ws1 2) fun n11 =>
          out .normal [gv ws1 0, gv ws1 1, (.int .i64 (add .i64 n11 1))] h2)))) (
    out (.exit 2) [gv ws1 0, gv ws1 1, gv ws1 2] h2)

noncomputable def f63_l1 (rec : Rec) (k : Nat) (v0 : Value) (n0 : Int) (n1 : Int) (ws0 : List Value) (h1 : H) : Option (Ex × List Value × H) :=
  asI .i64 (gv ws0 2) fun n2 =>
  ifB (lt n2 n1) (
    asK (gv ws0 2) fun n3 =>
    six v0 n3 1 fun b0 b1 =>
    ld Tryd.prog h1 3 b0 b1 fun v1 =>
    asI .i64 v1 fun n4 =>
    ifB (lt n4 0) (
      out .ret [(.slice none 0 0), (.bool false), gv ws0 2] h1) (
      nn n0 (
        ifB (le (shl .i64 1 n0) n4) (
          out .ret [(.slice none 0 0), (.bool false), gv ws0 2] h1) (
          asK (gv ws0 2) fun n5 =>
          nn n5 (
            ifB (eq (and .i64 (shr .i64 n4 n5) 1) 1) (
              out .ret [(.slice none 0 0), (.bool false), gv ws0 2] h1) (
              lp k (f63_l2 rec k v0 n0 ws0 n4) [gv ws0 0, gv ws0 1, (.int .i64 0)] h1 fun e0 ws2 h3 =>
              onE e0 2 (
                asI .i64 (gv ws0 2) fun n12 =>
                out .normal [gv ws2 0, gv ws2 1, (.int .i64 (add .i64 n12 1))] h3) (
                onR e0 (
                  out .ret [gv ws2 0, gv ws2 1, gv ws0 2] h3)))))))) (
    out (.exit 0) [gv ws0 0, gv ws0 1, gv ws0 2] h1)

noncomputable def f63 (rec : Rec) (k : Nat) (v0 : Value) (h0 : H) : Option (Value × H) :=
  len v0 fun n0 =>
  ifB (lt n0 1) (
    some ((.tuple #[(.slice none 0 0), (.bool false)]), h0)) (
    ifB (lt 10 n0) (
      some ((.tuple #[(.slice none 0 0), (.bool false)]), h0)) (
      len v0 fun n1 =>
      lp k (f63_l1 rec k v0 n0 n1) [(.slice none 0 0), (.bool false), (.int .i64 0)] h0 fun e1 ws3 h4 =>
      onE e1 0 (
        some ((.tuple #[v0, (.bool true)]), h4)) (
        onR e1 (
          some ((.tuple #[gv ws3 0, gv ws3 1]), h4)))))

theorem e63 (rec : Rec) (k : Nat) (v0 : Value) (h : H) : bodyT Tryd.prog E0 SC (XC Tryd.prog rec k) 63 (Value × H) [.opq v0] h (fun v h => some (v, h)) = f63 rec k v0 h := by kernel_rfl
theorem t63 {k : Nat} {v0 : Value} {h h1 : H} {v : Value} (hh : f63 rn k v0 h = some (v, h1)) : rn 63 #[v0] h = some (v, trunc Tryd.prog h h1 v) :=
  run_of_bodyT (args := [.opq v0]) rfl ((e63 _ _ _ _).trans hh)
theorem p63 {k : Nat} {v0 : Value} {h h1 : H} {v : Value} (hh : f63 rn k v0 h = some (v, h1)) (hp : plainO v = true) (x : Ext h h1) : rn 63 #[v0] h = some (v, h) := by rw [t63 hh, trunc_pure hp x]
theorem x63 {k : Nat} {v0 : Value} {h h1 : H} {v : Value} (hh : f63 rn k v0 h = some (v, h1)) (hp : plainO v = false) : ∃ h2, rn 63 #[v0] h = some (v, h2) ∧ Sm h1 h2 ∧ (Ext h h1 → Exw h h2) := trunc_cell hp (t63 hh)
theorem y63 {k : Nat} {v0 : Value} {h : H} {v : Value} (hh : f63 rn k v0 h = some (v, h)) : rn 63 #[v0] h = some (v, h) := by rw [t63 hh, trunc_self]

noncomputable def f66_l2 (_rec : Rec) (_k : Nat) (v0 : Value) (ws0 : List Value) (n4 : Int) (n8 : Int) (ws1 : List Value) (h2 : H) : Option (Ex × List Value × H) :=
  asI .i64 (gv ws1 1) fun n9 =>
  ifB (lt n9 n8) (
    asK (gv ws1 1) fun n10 =>
    nn n10 (
      asK (gv ws1 1) fun n11 =>
      six v0 n11 1 fun b2 b3 =>
      ld Tryd.prog h2 3 b2 b3 fun v2 =>
      asI .i64 v2 fun n12 =>
      asK (gv ws0 1) fun n13 =>
      nn n13 (
        ifB (not (eq (and .i64 (shr .i64 n4 n10) 1) (and .i64 (shr .i64 n12 n13) 1))) (
          out .ret [(.bool false), gv ws1 1] h2) (
          asI .i64 (gv ws1 1) fun n14 =>
          out .normal [gv ws1 0, (.int .i64 (add .i64 n14 1))] h2)))) (
    out (.exit 2) [gv ws1 0, gv ws1 1] h2)

noncomputable def f66_l1 (rec : Rec) (k : Nat) (v0 : Value) (n0 : Int) (n1 : Int) (ws0 : List Value) (h1 : H) : Option (Ex × List Value × H) :=
  asI .i64 (gv ws0 1) fun n2 =>
  ifB (lt n2 n1) (
    asK (gv ws0 1) fun n3 =>
    six v0 n3 1 fun b0 b1 =>
    ld Tryd.prog h1 3 b0 b1 fun v1 =>
    asI .i64 v1 fun n4 =>
    len v0 fun n5 =>
    ifB (lt n0 n5) (
      out .ret [(.bool false), gv ws0 1] h1) (
      ifB (lt n4 0) (
        out .ret [(.bool false), gv ws0 1] h1) (
        len v0 fun n6 =>
        nn n6 (
          ifB (le (shl .i64 1 n6) n4) (
            out .ret [(.bool false), gv ws0 1] h1) (
            asK (gv ws0 1) fun n7 =>
            nn n7 (
              ifB (eq (and .i64 (shr .i64 n4 n7) 1) 1) (
                out .ret [(.bool false), gv ws0 1] h1) (
                len v0 fun n8 =>
                lp k (f66_l2 rec k v0 ws0 n4 n8) [gv ws0 0, (.int .i64 0)] h1 fun e0 ws2 h3 =>
                onE e0 2 (
                  asI .i64 (gv ws0 1) fun n15 =>
                  out .normal [gv ws2 0, (.int .i64 (add .i64 n15 1))] h3) (
                  onR e0 (
                    out .ret [gv ws2 0, gv ws0 1] h3))))))))) (
    out (.exit 0) [gv ws0 0, gv ws0 1] h1)

noncomputable def f66 (rec : Rec) (k : Nat) (v0 : Value) (n0 : Int) (h0 : H) : Option (Value × H) :=
  len v0 fun n1 =>
  lp k (f66_l1 rec k v0 n0 n1) [(.bool false), (.int .i64 0)] h0 fun e1 ws3 h4 =>
  onE e1 0 (
    len v0 fun n16 =>
    ifB (le 1 n16) (
      len v0 fun n17 =>
      some ((.bool (le n17 n0)), h4)) (
      some ((.bool false), h4))) (
    onR e1 (
      some (gv ws3 0, h4)))

theorem e66 (rec : Rec) (k : Nat) (v0 : Value) (n0 : Int) (h : H) : bodyT Tryd.prog E0 SC (XC Tryd.prog rec k) 66 (Value × H) [.opq v0, .int .i64 n0] h (fun v h => some (v, h)) = f66 rec k v0 n0 h := by kernel_rfl
theorem t66 {k : Nat} {v0 : Value} {n0 : Int} {h h1 : H} {v : Value} (hh : f66 rn k v0 n0 h = some (v, h1)) : rn 66 #[v0, .int .i64 n0] h = some (v, trunc Tryd.prog h h1 v) :=
  run_of_bodyT (args := [.opq v0, .int .i64 n0]) rfl ((e66 _ _ _ _ _).trans hh)
theorem p66 {k : Nat} {v0 : Value} {n0 : Int} {h h1 : H} {v : Value} (hh : f66 rn k v0 n0 h = some (v, h1)) (hp : plainO v = true) (x : Ext h h1) : rn 66 #[v0, .int .i64 n0] h = some (v, h) := by rw [t66 hh, trunc_pure hp x]
theorem x66 {k : Nat} {v0 : Value} {n0 : Int} {h h1 : H} {v : Value} (hh : f66 rn k v0 n0 h = some (v, h1)) (hp : plainO v = false) : ∃ h2, rn 66 #[v0, .int .i64 n0] h = some (v, h2) ∧ Sm h1 h2 ∧ (Ext h h1 → Exw h h2) := trunc_cell hp (t66 hh)
theorem y66 {k : Nat} {v0 : Value} {n0 : Int} {h : H} {v : Value} (hh : f66 rn k v0 n0 h = some (v, h)) : rn 66 #[v0, .int .i64 n0] h = some (v, h) := by rw [t66 hh, trunc_self]

noncomputable def f65 (_rec : Rec) (_k : Nat) (v0 : Value) (h0 : H) : Option (Value × H) :=
  len v0 fun n0 =>
  nn n0 (
    some ((.int .i64 (sub .i64 (shl .i64 1 n0) 1)), h0))

theorem e65 (rec : Rec) (k : Nat) (v0 : Value) (h : H) : bodyT Tryd.prog E0 SC (XC Tryd.prog rec k) 65 (Value × H) [.opq v0] h (fun v h => some (v, h)) = f65 rec k v0 h := by kernel_rfl
theorem t65 {k : Nat} {v0 : Value} {h h1 : H} {v : Value} (hh : f65 rn k v0 h = some (v, h1)) : rn 65 #[v0] h = some (v, trunc Tryd.prog h h1 v) :=
  run_of_bodyT (args := [.opq v0]) rfl ((e65 _ _ _ _).trans hh)
theorem p65 {k : Nat} {v0 : Value} {h h1 : H} {v : Value} (hh : f65 rn k v0 h = some (v, h1)) (hp : plainO v = true) (x : Ext h h1) : rn 65 #[v0] h = some (v, h) := by rw [t65 hh, trunc_pure hp x]
theorem x65 {k : Nat} {v0 : Value} {h h1 : H} {v : Value} (hh : f65 rn k v0 h = some (v, h1)) (hp : plainO v = false) : ∃ h2, rn 65 #[v0] h = some (v, h2) ∧ Sm h1 h2 ∧ (Ext h h1 → Exw h h2) := trunc_cell hp (t65 hh)
theorem y65 {k : Nat} {v0 : Value} {h : H} {v : Value} (hh : f65 rn k v0 h = some (v, h)) : rn 65 #[v0] h = some (v, h) := by rw [t65 hh, trunc_self]

noncomputable def f68 (_rec : Rec) (_k : Nat) (v0 : Value) (h0 : H) : Option (Value × H) :=
  len v0 fun n0 =>
  nn n0 (
    some ((.int .i64 (sub .i64 (shl .i64 1 n0) 1)), h0))

theorem e68 (rec : Rec) (k : Nat) (v0 : Value) (h : H) : bodyT Tryd.prog E0 SC (XC Tryd.prog rec k) 68 (Value × H) [.opq v0] h (fun v h => some (v, h)) = f68 rec k v0 h := by kernel_rfl
theorem t68 {k : Nat} {v0 : Value} {h h1 : H} {v : Value} (hh : f68 rn k v0 h = some (v, h1)) : rn 68 #[v0] h = some (v, trunc Tryd.prog h h1 v) :=
  run_of_bodyT (args := [.opq v0]) rfl ((e68 _ _ _ _).trans hh)
theorem p68 {k : Nat} {v0 : Value} {h h1 : H} {v : Value} (hh : f68 rn k v0 h = some (v, h1)) (hp : plainO v = true) (x : Ext h h1) : rn 68 #[v0] h = some (v, h) := by rw [t68 hh, trunc_pure hp x]
theorem x68 {k : Nat} {v0 : Value} {h h1 : H} {v : Value} (hh : f68 rn k v0 h = some (v, h1)) (hp : plainO v = false) : ∃ h2, rn 68 #[v0] h = some (v, h2) ∧ Sm h1 h2 ∧ (Ext h h1 → Exw h h2) := trunc_cell hp (t68 hh)
theorem y68 {k : Nat} {v0 : Value} {h : H} {v : Value} (hh : f68 rn k v0 h = some (v, h)) : rn 68 #[v0] h = some (v, h) := by rw [t68 hh, trunc_self]

noncomputable def f76_l1 (rec : Rec) (_k : Nat)  (ws0 : List Value) (h1 : H) : Option (Ex × List Value × H) :=
  asI .i64 (gv ws0 1) fun n1 =>
  ifB (not (eq n1 0)) (
    asI .i64 (gv ws0 1) fun n2 =>
    calls rec h1 89 [(.int .u64 (wr .u64 n2))] fun v0 h2 =>
    asI .i64 v0 fun n3 =>
    bls Tryd.prog h2 22 1 [(0, (.int .i64 n3))] fun v1 h3 =>
    app Tryd.prog h3 22 22 (gv ws0 0) v1 fun v2 h4 =>
    asI .i64 (gv ws0 1) fun n4 =>
    asI .i64 (gv ws0 1) fun n5 =>
    out .normal [v2, (.int .i64 (and .i64 n5 (sub .i64 n4 1)))] h4) (
    out (.exit 0) [gv ws0 0, gv ws0 1] h1)

noncomputable def f76 (rec : Rec) (k : Nat) (n0 : Int) (h0 : H) : Option (Value × H) :=
  lp k (f76_l1 rec k) [(.slice none 0 0), (.int .i64 n0)] h0 fun e0 ws1 h5 =>
  onE e0 0 (
    some (gv ws1 0, h5)) (
    none)

theorem e76 (rec : Rec) (k : Nat) (n0 : Int) (h : H) : bodyT Tryd.prog E0 SC (XC Tryd.prog rec k) 76 (Value × H) [.int .i64 n0] h (fun v h => some (v, h)) = f76 rec k n0 h := by kernel_rfl
theorem t76 {k : Nat} {n0 : Int} {h h1 : H} {v : Value} (hh : f76 rn k n0 h = some (v, h1)) : rn 76 #[.int .i64 n0] h = some (v, trunc Tryd.prog h h1 v) :=
  run_of_bodyT (args := [.int .i64 n0]) rfl ((e76 _ _ _ _).trans hh)
theorem p76 {k : Nat} {n0 : Int} {h h1 : H} {v : Value} (hh : f76 rn k n0 h = some (v, h1)) (hp : plainO v = true) (x : Ext h h1) : rn 76 #[.int .i64 n0] h = some (v, h) := by rw [t76 hh, trunc_pure hp x]
theorem x76 {k : Nat} {n0 : Int} {h h1 : H} {v : Value} (hh : f76 rn k n0 h = some (v, h1)) (hp : plainO v = false) : ∃ h2, rn 76 #[.int .i64 n0] h = some (v, h2) ∧ Sm h1 h2 ∧ (Ext h h1 → Exw h h2) := trunc_cell hp (t76 hh)
theorem y76 {k : Nat} {n0 : Int} {h : H} {v : Value} (hh : f76 rn k n0 h = some (v, h)) : rn 76 #[.int .i64 n0] h = some (v, h) := by rw [t76 hh, trunc_self]

noncomputable def f78_l2 (_rec : Rec) (_k : Nat) (v0 : Value) (n1 : Int) (v1 : Value) (n2 : Int) (ws1 : List Value) (h3 : H) : Option (Ex × List Value × H) :=
  asI .i64 (gv ws1 1) fun n3 =>
  ifB (lt n3 n2) (
    asK (gv ws1 1) fun n4 =>
    six v1 n4 1 fun b0 b1 =>
    ld Tryd.prog h3 3 b0 b1 fun v2 =>
    asI .i64 v2 fun n5 =>
    six v0 n5 1 fun b2 b3 =>
    ld Tryd.prog h3 3 b2 b3 fun v3 =>
    asI .i64 v3 fun n6 =>
    asI .i64 (gv ws1 0) fun n7 =>
    asI .i64 (gv ws1 1) fun n8 =>
    out .normal [(.int .i64 (or .i64 n7 (and .i64 n6 n1))), (.int .i64 (add .i64 n8 1))] h3) (
    out (.exit 2) [gv ws1 0, gv ws1 1] h3)

noncomputable def f78_l1 (rec : Rec) (k : Nat) (v0 : Value) (n1 : Int) (ws0 : List Value) (h1 : H) : Option (Ex × List Value × H) :=
  calls rec h1 76 [gv ws0 1] fun v1 h2 =>
  len v1 fun n2 =>
  lp k (f78_l2 rec k v0 n1 v1 n2) [gv ws0 1, (.int .i64 0)] h2 fun e0 ws2 h4 =>
  onE e0 2 (
    asI .i64 (gv ws2 0) fun n9 =>
    asI .i64 (gv ws0 1) fun n10 =>
    ifB (eq n9 n10) (
      out .ret [gv ws0 1, gv ws0 1] h4) (
      out .normal [gv ws0 0, gv ws2 0] h4)) (
    none)

noncomputable def f78 (rec : Rec) (k : Nat) (v0 : Value) (n0 : Int) (n1 : Int) (h0 : H) : Option (Value × H) :=
  nn n0 (
    lp k (f78_l1 rec k v0 n1) [(.int .i64 0), (.int .i64 (shl .i64 1 n0))] h0 fun e1 ws3 h5 =>
    onR e1 (
      some (gv ws3 0, h5)))

theorem e78 (rec : Rec) (k : Nat) (v0 : Value) (n0 : Int) (n1 : Int) (h : H) : bodyT Tryd.prog E0 SC (XC Tryd.prog rec k) 78 (Value × H) [.opq v0, .int .i64 n0, .int .i64 n1] h (fun v h => some (v, h)) = f78 rec k v0 n0 n1 h := by kernel_rfl
theorem t78 {k : Nat} {v0 : Value} {n0 : Int} {n1 : Int} {h h1 : H} {v : Value} (hh : f78 rn k v0 n0 n1 h = some (v, h1)) : rn 78 #[v0, .int .i64 n0, .int .i64 n1] h = some (v, trunc Tryd.prog h h1 v) :=
  run_of_bodyT (args := [.opq v0, .int .i64 n0, .int .i64 n1]) rfl ((e78 _ _ _ _ _ _).trans hh)
theorem p78 {k : Nat} {v0 : Value} {n0 : Int} {n1 : Int} {h h1 : H} {v : Value} (hh : f78 rn k v0 n0 n1 h = some (v, h1)) (hp : plainO v = true) (x : Ext h h1) : rn 78 #[v0, .int .i64 n0, .int .i64 n1] h = some (v, h) := by rw [t78 hh, trunc_pure hp x]
theorem x78 {k : Nat} {v0 : Value} {n0 : Int} {n1 : Int} {h h1 : H} {v : Value} (hh : f78 rn k v0 n0 n1 h = some (v, h1)) (hp : plainO v = false) : ∃ h2, rn 78 #[v0, .int .i64 n0, .int .i64 n1] h = some (v, h2) ∧ Sm h1 h2 ∧ (Ext h h1 → Exw h h2) := trunc_cell hp (t78 hh)
theorem y78 {k : Nat} {v0 : Value} {n0 : Int} {n1 : Int} {h : H} {v : Value} (hh : f78 rn k v0 n0 n1 h = some (v, h)) : rn 78 #[v0, .int .i64 n0, .int .i64 n1] h = some (v, h) := by rw [t78 hh, trunc_self]

noncomputable def f64 (rec : Rec) (_k : Nat) (v0 : Value) (n0 : Int) (h0 : H) : Option (Value × H) :=
  ifB (eq n0 0) (
    some ((.bool true), h0)) (
    calls rec h0 89 [(.int .u64 (wr .u64 n0))] fun v1 h1 =>
    asI .i64 v1 fun n1 =>
    calls rec h1 78 [v0, (.int .i64 n1), (.int .i64 n0)] fun v2 h2 =>
    asI .i64 v2 fun n2 =>
    some ((.bool (eq n2 n0)), h2))

theorem e64 (rec : Rec) (k : Nat) (v0 : Value) (n0 : Int) (h : H) : bodyT Tryd.prog E0 SC (XC Tryd.prog rec k) 64 (Value × H) [.opq v0, .int .i64 n0] h (fun v h => some (v, h)) = f64 rec k v0 n0 h := by kernel_rfl
theorem t64 {k : Nat} {v0 : Value} {n0 : Int} {h h1 : H} {v : Value} (hh : f64 rn k v0 n0 h = some (v, h1)) : rn 64 #[v0, .int .i64 n0] h = some (v, trunc Tryd.prog h h1 v) :=
  run_of_bodyT (args := [.opq v0, .int .i64 n0]) rfl ((e64 _ _ _ _ _).trans hh)
theorem p64 {k : Nat} {v0 : Value} {n0 : Int} {h h1 : H} {v : Value} (hh : f64 rn k v0 n0 h = some (v, h1)) (hp : plainO v = true) (x : Ext h h1) : rn 64 #[v0, .int .i64 n0] h = some (v, h) := by rw [t64 hh, trunc_pure hp x]
theorem x64 {k : Nat} {v0 : Value} {n0 : Int} {h h1 : H} {v : Value} (hh : f64 rn k v0 n0 h = some (v, h1)) (hp : plainO v = false) : ∃ h2, rn 64 #[v0, .int .i64 n0] h = some (v, h2) ∧ Sm h1 h2 ∧ (Ext h h1 → Exw h h2) := trunc_cell hp (t64 hh)
theorem y64 {k : Nat} {v0 : Value} {n0 : Int} {h : H} {v : Value} (hh : f64 rn k v0 n0 h = some (v, h)) : rn 64 #[v0, .int .i64 n0] h = some (v, h) := by rw [t64 hh, trunc_self]

noncomputable def f33_l2 (_rec : Rec) (_k : Nat) (v0 : Value) (n0 : Int) (n4 : Int) (ws1 : List Value) (h2 : H) : Option (Ex × List Value × H) :=
  asI .i64 (gv ws1 1) fun n5 =>
  ifB (lt n5 n4) (
    asI .i64 (gv ws1 0) fun n6 =>
    asK (gv ws1 1) fun n7 =>
    nn n7 (
      ifB (eq (and .i64 (shr .i64 n6 n7) 1) 1) (
        asK (gv ws1 1) fun n8 =>
        six v0 n8 1 fun b0 b1 =>
        ld Tryd.prog h2 3 b0 b1 fun v1 =>
        asI .i64 v1 fun n9 =>
        asI .i64 (gv ws1 0) fun n10 =>
        asI .i64 (gv ws1 1) fun n11 =>
        out .normal [(.int .i64 (or .i64 n10 (and .i64 n9 n0))), (.int .i64 (add .i64 n11 1))] h2) (
        asI .i64 (gv ws1 1) fun n12 =>
        out .normal [gv ws1 0, (.int .i64 (add .i64 n12 1))] h2))) (
    out (.exit 2) [gv ws1 0, gv ws1 1] h2)

noncomputable def f33_l1 (rec : Rec) (k : Nat) (v0 : Value) (n0 : Int) (n2 : Int) (ws0 : List Value) (h1 : H) : Option (Ex × List Value × H) :=
  asI .i64 (gv ws0 1) fun n3 =>
  ifB (lt n3 n2) (
    len v0 fun n4 =>
    lp k (f33_l2 rec k v0 n0 n4) [gv ws0 0, (.int .i64 0)] h1 fun e0 ws2 h3 =>
    onE e0 2 (
      asI .i64 (gv ws0 1) fun n13 =>
      out .normal [gv ws2 0, (.int .i64 (add .i64 n13 1))] h3) (
      none)) (
    out (.exit 0) [gv ws0 0, gv ws0 1] h1)

noncomputable def f33 (rec : Rec) (k : Nat) (v0 : Value) (n0 : Int) (n1 : Int) (h0 : H) : Option (Value × H) :=
  nn n1 (
    len v0 fun n2 =>
    lp k (f33_l1 rec k v0 n0 n2) [(.int .i64 (shl .i64 1 n1)), (.int .i64 0)] h0 fun e1 ws3 h4 =>
    onE e1 0 (
      some (gv ws3 0, h4)) (
      none))

theorem e33 (rec : Rec) (k : Nat) (v0 : Value) (n0 : Int) (n1 : Int) (h : H) : bodyT Tryd.prog E0 SC (XC Tryd.prog rec k) 33 (Value × H) [.opq v0, .int .i64 n0, .int .i64 n1] h (fun v h => some (v, h)) = f33 rec k v0 n0 n1 h := by kernel_rfl
theorem t33 {k : Nat} {v0 : Value} {n0 : Int} {n1 : Int} {h h1 : H} {v : Value} (hh : f33 rn k v0 n0 n1 h = some (v, h1)) : rn 33 #[v0, .int .i64 n0, .int .i64 n1] h = some (v, trunc Tryd.prog h h1 v) :=
  run_of_bodyT (args := [.opq v0, .int .i64 n0, .int .i64 n1]) rfl ((e33 _ _ _ _ _ _).trans hh)
theorem p33 {k : Nat} {v0 : Value} {n0 : Int} {n1 : Int} {h h1 : H} {v : Value} (hh : f33 rn k v0 n0 n1 h = some (v, h1)) (hp : plainO v = true) (x : Ext h h1) : rn 33 #[v0, .int .i64 n0, .int .i64 n1] h = some (v, h) := by rw [t33 hh, trunc_pure hp x]
theorem x33 {k : Nat} {v0 : Value} {n0 : Int} {n1 : Int} {h h1 : H} {v : Value} (hh : f33 rn k v0 n0 n1 h = some (v, h1)) (hp : plainO v = false) : ∃ h2, rn 33 #[v0, .int .i64 n0, .int .i64 n1] h = some (v, h2) ∧ Sm h1 h2 ∧ (Ext h h1 → Exw h h2) := trunc_cell hp (t33 hh)
theorem y33 {k : Nat} {v0 : Value} {n0 : Int} {n1 : Int} {h : H} {v : Value} (hh : f33 rn k v0 n0 n1 h = some (v, h)) : rn 33 #[v0, .int .i64 n0, .int .i64 n1] h = some (v, h) := by rw [t33 hh, trunc_self]

noncomputable def f67_l1 (_rec : Rec) (_k : Nat) (n0 : Int) (ws0 : List Value) (h1 : H) : Option (Ex × List Value × H) :=
  asK (gv ws0 0) fun n2 =>
  nn n2 (
    ifB (eq (and .i64 (shr .i64 n0 n2) 1) 0) (
      asI .i64 (gv ws0 0) fun n3 =>
      out .normal [(.int .i64 (add .i64 n3 1))] h1) (
      out (.exit 0) [gv ws0 0] h1))

noncomputable def f67 (rec : Rec) (k : Nat) (v0 : Value) (n0 : Int) (h0 : H) : Option (Value × H) :=
  ifB (le n0 0) (
    some ((.bool false), h0)) (
    len v0 fun n1 =>
    nn n1 (
      ifB (le (shl .i64 1 n1) n0) (
        some ((.bool false), h0)) (
        lp k (f67_l1 rec k n0) [(.int .i64 0)] h0 fun e0 ws1 h2 =>
        onE e0 0 (
          calls rec h2 33 [v0, (.int .i64 n0), gv ws1 0] fun v1 h3 =>
          asI .i64 v1 fun n4 =>
          some ((.bool (eq n4 n0)), h3)) (
          none))))

theorem e67 (rec : Rec) (k : Nat) (v0 : Value) (n0 : Int) (h : H) : bodyT Tryd.prog E0 SC (XC Tryd.prog rec k) 67 (Value × H) [.opq v0, .int .i64 n0] h (fun v h => some (v, h)) = f67 rec k v0 n0 h := by kernel_rfl
theorem t67 {k : Nat} {v0 : Value} {n0 : Int} {h h1 : H} {v : Value} (hh : f67 rn k v0 n0 h = some (v, h1)) : rn 67 #[v0, .int .i64 n0] h = some (v, trunc Tryd.prog h h1 v) :=
  run_of_bodyT (args := [.opq v0, .int .i64 n0]) rfl ((e67 _ _ _ _ _).trans hh)
theorem p67 {k : Nat} {v0 : Value} {n0 : Int} {h h1 : H} {v : Value} (hh : f67 rn k v0 n0 h = some (v, h1)) (hp : plainO v = true) (x : Ext h h1) : rn 67 #[v0, .int .i64 n0] h = some (v, h) := by rw [t67 hh, trunc_pure hp x]
theorem x67 {k : Nat} {v0 : Value} {n0 : Int} {h h1 : H} {v : Value} (hh : f67 rn k v0 n0 h = some (v, h1)) (hp : plainO v = false) : ∃ h2, rn 67 #[v0, .int .i64 n0] h = some (v, h2) ∧ Sm h1 h2 ∧ (Ext h h1 → Exw h h2) := trunc_cell hp (t67 hh)
theorem y67 {k : Nat} {v0 : Value} {n0 : Int} {h : H} {v : Value} (hh : f67 rn k v0 n0 h = some (v, h)) : rn 67 #[v0, .int .i64 n0] h = some (v, h) := by rw [t67 hh, trunc_self]

noncomputable def f83 (_rec : Rec) (_k : Nat) (v0 : Value) (h0 : H) : Option (Value × H) :=
  eqv Tryd.prog 22 v0 (.slice none 0 0) fun q0 =>
  ifB q0 (
    some ((.slice none 0 0), h0)) (
    bls Tryd.prog h0 22 0 [] fun v1 h1 =>
    app Tryd.prog h1 22 22 v1 v0 fun v2 h2 =>
    some (v2, h2))

theorem e83 (rec : Rec) (k : Nat) (v0 : Value) (h : H) : bodyT Tryd.prog E0 SC (XC Tryd.prog rec k) 83 (Value × H) [.opq v0] h (fun v h => some (v, h)) = f83 rec k v0 h := by kernel_rfl
theorem t83 {k : Nat} {v0 : Value} {h h1 : H} {v : Value} (hh : f83 rn k v0 h = some (v, h1)) : rn 83 #[v0] h = some (v, trunc Tryd.prog h h1 v) :=
  run_of_bodyT (args := [.opq v0]) rfl ((e83 _ _ _ _).trans hh)
theorem p83 {k : Nat} {v0 : Value} {h h1 : H} {v : Value} (hh : f83 rn k v0 h = some (v, h1)) (hp : plainO v = true) (x : Ext h h1) : rn 83 #[v0] h = some (v, h) := by rw [t83 hh, trunc_pure hp x]
theorem x83 {k : Nat} {v0 : Value} {h h1 : H} {v : Value} (hh : f83 rn k v0 h = some (v, h1)) (hp : plainO v = false) : ∃ h2, rn 83 #[v0] h = some (v, h2) ∧ Sm h1 h2 ∧ (Ext h h1 → Exw h h2) := trunc_cell hp (t83 hh)
theorem y83 {k : Nat} {v0 : Value} {h : H} {v : Value} (hh : f83 rn k v0 h = some (v, h)) : rn 83 #[v0] h = some (v, h) := by rw [t83 hh, trunc_self]

noncomputable def f85 (_rec : Rec) (_k : Nat) (v0 : Value) (h0 : H) : Option (Value × H) :=
  eqv Tryd.prog 78 v0 (.slice none 0 0) fun q0 =>
  ifB q0 (
    some ((.slice none 0 0), h0)) (
    bls Tryd.prog h0 78 0 [] fun v1 h1 =>
    app Tryd.prog h1 78 78 v1 v0 fun v2 h2 =>
    some (v2, h2))

theorem e85 (rec : Rec) (k : Nat) (v0 : Value) (h : H) : bodyT Tryd.prog E0 SC (XC Tryd.prog rec k) 85 (Value × H) [.opq v0] h (fun v h => some (v, h)) = f85 rec k v0 h := by kernel_rfl
theorem t85 {k : Nat} {v0 : Value} {h h1 : H} {v : Value} (hh : f85 rn k v0 h = some (v, h1)) : rn 85 #[v0] h = some (v, trunc Tryd.prog h h1 v) :=
  run_of_bodyT (args := [.opq v0]) rfl ((e85 _ _ _ _).trans hh)
theorem p85 {k : Nat} {v0 : Value} {h h1 : H} {v : Value} (hh : f85 rn k v0 h = some (v, h1)) (hp : plainO v = true) (x : Ext h h1) : rn 85 #[v0] h = some (v, h) := by rw [t85 hh, trunc_pure hp x]
theorem x85 {k : Nat} {v0 : Value} {h h1 : H} {v : Value} (hh : f85 rn k v0 h = some (v, h1)) (hp : plainO v = false) : ∃ h2, rn 85 #[v0] h = some (v, h2) ∧ Sm h1 h2 ∧ (Ext h h1 → Exw h h2) := trunc_cell hp (t85 hh)
theorem y85 {k : Nat} {v0 : Value} {h : H} {v : Value} (hh : f85 rn k v0 h = some (v, h)) : rn 85 #[v0] h = some (v, h) := by rw [t85 hh, trunc_self]

noncomputable def f79 (_rec : Rec) (_k : Nat) (v0 : Value) (n0 : Int) (h0 : H) : Option (Value × H) :=
  ifB (le 0 n0) (
    len v0 fun n1 =>
    some ((.bool (lt n0 n1)), h0)) (
    some ((.bool false), h0))

theorem e79 (rec : Rec) (k : Nat) (v0 : Value) (n0 : Int) (h : H) : bodyT Tryd.prog E0 SC (XC Tryd.prog rec k) 79 (Value × H) [.opq v0, .int .i64 n0] h (fun v h => some (v, h)) = f79 rec k v0 n0 h := by kernel_rfl
theorem t79 {k : Nat} {v0 : Value} {n0 : Int} {h h1 : H} {v : Value} (hh : f79 rn k v0 n0 h = some (v, h1)) : rn 79 #[v0, .int .i64 n0] h = some (v, trunc Tryd.prog h h1 v) :=
  run_of_bodyT (args := [.opq v0, .int .i64 n0]) rfl ((e79 _ _ _ _ _).trans hh)
theorem p79 {k : Nat} {v0 : Value} {n0 : Int} {h h1 : H} {v : Value} (hh : f79 rn k v0 n0 h = some (v, h1)) (hp : plainO v = true) (x : Ext h h1) : rn 79 #[v0, .int .i64 n0] h = some (v, h) := by rw [t79 hh, trunc_pure hp x]
theorem x79 {k : Nat} {v0 : Value} {n0 : Int} {h h1 : H} {v : Value} (hh : f79 rn k v0 n0 h = some (v, h1)) (hp : plainO v = false) : ∃ h2, rn 79 #[v0, .int .i64 n0] h = some (v, h2) ∧ Sm h1 h2 ∧ (Ext h h1 → Exw h h2) := trunc_cell hp (t79 hh)
theorem y79 {k : Nat} {v0 : Value} {n0 : Int} {h : H} {v : Value} (hh : f79 rn k v0 n0 h = some (v, h)) : rn 79 #[v0, .int .i64 n0] h = some (v, h) := by rw [t79 hh, trunc_self]

noncomputable def f80 (_rec : Rec) (_k : Nat) (v0 : Value) (n0 : Int) (n1 : Int) (h0 : H) : Option (Value × H) :=
  six v0 n0 1 fun b0 b1 =>
  ld Tryd.prog h0 3 b0 b1 fun v1 =>
  asI .i64 v1 fun n2 =>
  nn n1 (
    some ((.bool (eq (and .i64 (shr .i64 n2 n1) 1) 1)), h0))

theorem e80 (rec : Rec) (k : Nat) (v0 : Value) (n0 : Int) (n1 : Int) (h : H) : bodyT Tryd.prog E0 SC (XC Tryd.prog rec k) 80 (Value × H) [.opq v0, .int .i64 n0, .int .i64 n1] h (fun v h => some (v, h)) = f80 rec k v0 n0 n1 h := by kernel_rfl
theorem t80 {k : Nat} {v0 : Value} {n0 : Int} {n1 : Int} {h h1 : H} {v : Value} (hh : f80 rn k v0 n0 n1 h = some (v, h1)) : rn 80 #[v0, .int .i64 n0, .int .i64 n1] h = some (v, trunc Tryd.prog h h1 v) :=
  run_of_bodyT (args := [.opq v0, .int .i64 n0, .int .i64 n1]) rfl ((e80 _ _ _ _ _ _).trans hh)
theorem p80 {k : Nat} {v0 : Value} {n0 : Int} {n1 : Int} {h h1 : H} {v : Value} (hh : f80 rn k v0 n0 n1 h = some (v, h1)) (hp : plainO v = true) (x : Ext h h1) : rn 80 #[v0, .int .i64 n0, .int .i64 n1] h = some (v, h) := by rw [t80 hh, trunc_pure hp x]
theorem x80 {k : Nat} {v0 : Value} {n0 : Int} {n1 : Int} {h h1 : H} {v : Value} (hh : f80 rn k v0 n0 n1 h = some (v, h1)) (hp : plainO v = false) : ∃ h2, rn 80 #[v0, .int .i64 n0, .int .i64 n1] h = some (v, h2) ∧ Sm h1 h2 ∧ (Ext h h1 → Exw h h2) := trunc_cell hp (t80 hh)
theorem y80 {k : Nat} {v0 : Value} {n0 : Int} {n1 : Int} {h : H} {v : Value} (hh : f80 rn k v0 n0 n1 h = some (v, h)) : rn 80 #[v0, .int .i64 n0, .int .i64 n1] h = some (v, h) := by rw [t80 hh, trunc_self]

end Go.AM
