/- Parts of the proof, put together: what the functions of the program answer, and plain laws. -/
import Derived.Test.YtphchobmencipaaDoorAmSim
import Derived.Test.YtphchobmencipaaDoorProg
import Derived.KernelRfl
import Derived.Test.YtphchobmencipaaDoorAmIt

section

/- The seat's environment, what its types are, and calls in the end. -/
namespace Go.AM
open Go.Proofs
/-- The table by which the library finds the lowest bit. -/
def tab64 : List Int := [0, 1, 56, 2, 57, 49, 28, 3, 61, 58, 42, 50, 38, 29, 17, 4, 62, 47, 59, 36, 45, 43, 51, 22, 53, 39, 33, 30, 24, 18, 12, 5, 63, 55, 48, 27, 60, 41, 37, 16, 46, 35, 44, 21, 52, 32, 23, 11, 54, 26, 40, 15, 34, 20, 31, 10, 25, 14, 19, 9, 13, 8, 7, 6]

/-- Two package-level variables, of which one is read; the calls that are made by themselves. -/
def E0 : Env := ⟨2, fun g => if g = 1 then some (.row (tab64.map fun n => .int .u8 n) 5 false) else none, fun f => f == 9 || f == 15 || f == 24 || f == 104⟩

noncomputable abbrev rn : Rec := run Tryd.prog E0

variable {R : Type} {h : H} {b o : Nat} {v : Value}
theorem ag0 : aggT Tryd.prog 0 = some false := by kernel_rfl

theorem d0 {K : Value → Option R} : ld Tryd.prog h 0 b o K = (h.cell b o).bind K := ld_scS ag0

theorem ag1 : aggT Tryd.prog 1 = some false := by kernel_rfl

theorem sz1 : size? Tryd.prog 1 = some 1 := by kernel_rfl

theorem d1 {K : Value → Option R} : ld Tryd.prog h 1 b o K = (h.cell b o).bind K := ld_scS ag1

theorem w1 {K : H → Option R} : st Tryd.prog h 1 b o v K = (wrc 1 h b o v).bind K := st_S sz1

theorem ag2 : aggT Tryd.prog 2 = some false := by kernel_rfl

theorem sz2 : size? Tryd.prog 2 = some 1 := by kernel_rfl

theorem d2 {K : Value → Option R} : ld Tryd.prog h 2 b o K = (h.cell b o).bind K := ld_scS ag2

theorem w2 {K : H → Option R} : st Tryd.prog h 2 b o v K = (wrc 1 h b o v).bind K := st_S sz2

theorem ag3 : aggT Tryd.prog 3 = some false := by kernel_rfl

theorem sz3 : size? Tryd.prog 3 = some 1 := by kernel_rfl

theorem d3 {K : Value → Option R} : ld Tryd.prog h 3 b o K = (h.cell b o).bind K := ld_scS ag3

theorem w3 {K : H → Option R} : st Tryd.prog h 3 b o v K = (wrc 1 h b o v).bind K := st_S sz3

theorem ag4 : aggT Tryd.prog 4 = some false := by kernel_rfl

theorem sz4 : size? Tryd.prog 4 = some 1 := by kernel_rfl

theorem d4 {K : Value → Option R} : ld Tryd.prog h 4 b o K = (h.cell b o).bind K := ld_scS ag4

theorem w4 {K : H → Option R} : st Tryd.prog h 4 b o v K = (wrc 1 h b o v).bind K := st_S sz4

theorem ag5 : aggT Tryd.prog 5 = some false := by kernel_rfl

theorem sz5 : size? Tryd.prog 5 = some 1 := by kernel_rfl

theorem d5 {K : Value → Option R} : ld Tryd.prog h 5 b o K = (h.cell b o).bind K := ld_scS ag5

theorem w5 {K : H → Option R} : st Tryd.prog h 5 b o v K = (wrc 1 h b o v).bind K := st_S sz5

theorem ag6 : aggT Tryd.prog 6 = some false := by kernel_rfl

theorem sz6 : size? Tryd.prog 6 = some 1 := by kernel_rfl

theorem d6 {K : Value → Option R} : ld Tryd.prog h 6 b o K = (h.cell b o).bind K := ld_scS ag6

theorem w6 {K : H → Option R} : st Tryd.prog h 6 b o v K = (wrc 1 h b o v).bind K := st_S sz6

theorem sz10 : size? Tryd.prog 10 = some 1 := by kernel_rfl

theorem w10 {K : H → Option R} : st Tryd.prog h 10 b o v K = (wrc 1 h b o v).bind K := st_S sz10

theorem ag22 : aggT Tryd.prog 22 = some false := by kernel_rfl

theorem sz22 : size? Tryd.prog 22 = some 1 := by kernel_rfl

theorem d22 {K : Value → Option R} : ld Tryd.prog h 22 b o K = (h.cell b o).bind K := ld_scS ag22

theorem w22 {K : H → Option R} : st Tryd.prog h 22 b o v K = (wrc 1 h b o v).bind K := st_S sz22

theorem ag23 : aggT Tryd.prog 23 = some false := by kernel_rfl

theorem d23 {K : Value → Option R} : ld Tryd.prog h 23 b o K = (h.cell b o).bind K := ld_scS ag23

theorem ag72 : aggT Tryd.prog 72 = some false := by kernel_rfl

theorem d72 {K : Value → Option R} : ld Tryd.prog h 72 b o K = (h.cell b o).bind K := ld_scS ag72

theorem ag83 : aggT Tryd.prog 83 = some true := by kernel_rfl

theorem sz83 : size? Tryd.prog 83 = some 2 := by kernel_rfl

theorem d83 {K : Value → Option R} : ld Tryd.prog h 83 b o K = (h.rd b o 2).bind fun l => K (.agg l.toArray) := ld_agS ag83 sz83

theorem w83 {K : H → Option R} : st Tryd.prog h 83 b o v K = (wrc 2 h b o v).bind K := st_S sz83

theorem ag84 : aggT Tryd.prog 84 = some false := by kernel_rfl

theorem d84 {K : Value → Option R} : ld Tryd.prog h 84 b o K = (h.cell b o).bind K := ld_scS ag84

theorem ag95 : aggT Tryd.prog 95 = some true := by kernel_rfl

theorem sz95 : size? Tryd.prog 95 = some 4 := by kernel_rfl

theorem d95 {K : Value → Option R} : ld Tryd.prog h 95 b o K = (h.rd b o 4).bind fun l => K (.agg l.toArray) := ld_agS ag95 sz95

theorem w95 {K : H → Option R} : st Tryd.prog h 95 b o v K = (wrc 4 h b o v).bind K := st_S sz95

theorem ag126 : aggT Tryd.prog 126 = some false := by kernel_rfl

theorem d126 {K : Value → Option R} : ld Tryd.prog h 126 b o K = (h.cell b o).bind K := ld_scS ag126

end Go.AM

end

section

/- The staged forms of functions 4, 18, 45, 86, 47, 87, 110, 111, 88, 112, 120, 19, 48, 89, 50, 51, 20, and what calls of these answer. -/
namespace Go.AM
open Go.Proofs
noncomputable def f4 (rec : Rec) (_k : Nat) (v0 : Value) (h0 : H) : Option (Value × H) :=
  calls rec h0 14 [v0] fun v1 h1 =>
  asB v1 fun q0 =>
  ifB (not q0) (
    calls rec h1 15 [] fun v2 h2 =>
    asB v2 fun q1 =>
    some ((.bool q1), h2)) (
    len v0 fun n0 =>
    ifB (lt n0 4) (
      calls rec h1 15 [] fun v3 h3 =>
      asB v3 fun q2 =>
      some ((.bool q2), h3)) (
      calls rec h1 11 [v0] fun v4 h4 =>
      calls rec h4 16 [v4] fun v5 h5 =>
      ext v5 0 fun v6 =>
      asI .i64 v6 fun n1 =>
      ext v5 1 fun v7 =>
      asI .i64 v7 fun n2 =>
      calls rec h5 11 [v0] fun v8 h6 =>
      calls rec h6 17 [v8] fun v9 h7 =>
      ext v9 0 fun v10 =>
      ext v9 1 fun v11 =>
      asI .i64 v11 fun n3 =>
      calls rec h7 11 [v0] fun v12 h8 =>
      calls rec h8 10 [v12] fun v13 h9 =>
      ext v13 0 fun v14 =>
      ext v13 1 fun v15 =>
      asI .i64 v15 fun n4 =>
      ifB (not (eq n2 0)) (
        some ((.bool false), h9)) (
        ifB (not (eq n3 0)) (
          some ((.bool false), h9)) (
          ifB (not (eq n4 0)) (
            some ((.bool false), h9)) (
            ifB (not (eq n1 0)) (
              calls rec h9 15 [] fun v16 h10 =>
              asB v16 fun q3 =>
              some ((.bool q3), h10)) (
              len v10 fun n5 =>
              ifB (not (eq n5 0)) (
                calls rec h9 15 [] fun v17 h11 =>
                asB v17 fun q4 =>
                some ((.bool q4), h11)) (
                len v14 fun n6 =>
                ifB (not (eq n6 1)) (
                  calls rec h9 15 [] fun v18 h12 =>
                  asB v18 fun q5 =>
                  some ((.bool q5), h12)) (
                  calls rec h9 18 [(.int .i64 4)] fun v19 h13 =>
                  ext v19 0 fun v20 =>
                  ext v19 1 fun v21 =>
                  asI .i64 v21 fun n7 =>
                  calls rec h13 11 [v0] fun v22 h14 =>
                  calls rec h14 19 [v22, v20] fun v23 h15 =>
                  ext v23 0 fun _ =>
                  ext v23 1 fun v25 =>
                  asI .i64 v25 fun n8 =>
                  calls rec h15 11 [v0] fun v26 h16 =>
                  calls rec h16 20 [v26] fun v27 h17 =>
                  ext v27 0 fun _ =>
                  ext v27 1 fun v29 =>
                  asI .i64 v29 fun n9 =>
                  ifB (eq n7 0) (
                    ifB (eq n8 0) (
                      ifB (eq n9 4) (
                        calls rec h17 15 [] fun v30 h18 =>
                        asB v30 fun q6 =>
                        some ((.bool q6), h18)) (
                        some ((.bool false), h17))) (
                      some ((.bool false), h17))) (
                    some ((.bool false), h17))))))))))

theorem e4 (rec : Rec) (k : Nat) (v0 : Value) (h : H) : bodyT Tryd.prog E0 SC (XC Tryd.prog rec k) 4 (Value × H) [.opq v0] h (fun v h => some (v, h)) = f4 rec k v0 h := by kernel_rfl

theorem t4 {k : Nat} {v0 : Value} {h h1 : H} {v : Value} (hh : f4 rn k v0 h = some (v, h1)) : rn 4 #[v0] h = some (v, trunc Tryd.prog h h1 v) :=
  run_of_bodyT (args := [.opq v0]) rfl ((e4 _ _ _ _).trans hh)

theorem x4 {k : Nat} {v0 : Value} {h h1 : H} {v : Value} (hh : f4 rn k v0 h = some (v, h1)) (hp : plainO v = false) : ∃ h2, rn 4 #[v0] h = some (v, h2) ∧ Sm h1 h2 ∧ (Ext h h1 → Exw h h2) := trunc_cell hp (t4 hh)

noncomputable def f18 (rec : Rec) (_k : Nat) (n0 : Int) (h0 : H) : Option (Value × H) :=
  ifB (lt n0 1) (
    some ((.tuple #[(.slice none 0 0), (.int .i64 2)]), h0)) (
    ifB (lt 6 n0) (
      some ((.tuple #[(.slice none 0 0), (.int .i64 2)]), h0)) (
      calls rec h0 45 [(.int .i64 n0)] fun v0 h1 =>
      some ((.tuple #[v0, (.int .i64 0)]), h1)))

theorem e18 (rec : Rec) (k : Nat) (n0 : Int) (h : H) : bodyT Tryd.prog E0 SC (XC Tryd.prog rec k) 18 (Value × H) [.int .i64 n0] h (fun v h => some (v, h)) = f18 rec k n0 h := by kernel_rfl

theorem t18 {k : Nat} {n0 : Int} {h h1 : H} {v : Value} (hh : f18 rn k n0 h = some (v, h1)) : rn 18 #[.int .i64 n0] h = some (v, trunc Tryd.prog h h1 v) :=
  run_of_bodyT (args := [.int .i64 n0]) rfl ((e18 _ _ _ _).trans hh)

theorem x18 {k : Nat} {n0 : Int} {h h1 : H} {v : Value} (hh : f18 rn k n0 h = some (v, h1)) (hp : plainO v = false) : ∃ h2, rn 18 #[.int .i64 n0] h = some (v, h2) ∧ Sm h1 h2 ∧ (Ext h h1 → Exw h h2) := trunc_cell hp (t18 hh)

noncomputable def f45_l2 (rec : Rec) (_k : Nat) (v0 : Value) (ws0 : List Value) (ws1 : List Value) (h3 : H) : Option (Ex × List Value × H) :=
  asI .i64 (gv ws1 0) fun n2 =>
  asI .i64 (gv ws0 0) fun n3 =>
  ifB (lt n2 n3) (
    calls rec h3 86 [v0, gv ws0 0, gv ws1 0] fun _ h4 =>
    asI .i64 (gv ws1 0) fun n4 =>
    out .normal [(.int .i64 (add .i64 n4 1))] h4) (
    out (.exit 2) [gv ws1 0] h3)

noncomputable def f45_l1 (rec : Rec) (k : Nat) (n0 : Int) (v0 : Value) (ws0 : List Value) (h2 : H) : Option (Ex × List Value × H) :=
  asI .i64 (gv ws0 0) fun n1 =>
  ifB (lt n1 n0) (
    lp k (f45_l2 rec k v0 ws0) [(.int .i64 0)] h2 fun e0 _ h5 =>
    onE e0 2 (
      asI .i64 (gv ws0 0) fun n5 =>
      out .normal [(.int .i64 (add .i64 n5 1))] h5) (
      none)) (
    out (.exit 0) [gv ws0 0] h2)

noncomputable def f45 (rec : Rec) (k : Nat) (n0 : Int) (h0 : H) : Option (Value × H) :=
  mks Tryd.prog h0 84 n0 n0 fun v0 h1 =>
  lp k (f45_l1 rec k n0 v0) [(.int .i64 0)] h1 fun e1 _ h6 =>
  onE e1 0 (
    some (v0, h6)) (
    none)

theorem e45 (rec : Rec) (k : Nat) (n0 : Int) (h : H) : bodyT Tryd.prog E0 SC (XC Tryd.prog rec k) 45 (Value × H) [.int .i64 n0] h (fun v h => some (v, h)) = f45 rec k n0 h := by kernel_rfl

theorem t45 {k : Nat} {n0 : Int} {h h1 : H} {v : Value} (hh : f45 rn k n0 h = some (v, h1)) : rn 45 #[.int .i64 n0] h = some (v, trunc Tryd.prog h h1 v) :=
  run_of_bodyT (args := [.int .i64 n0]) rfl ((e45 _ _ _ _).trans hh)

theorem x45 {k : Nat} {n0 : Int} {h h1 : H} {v : Value} (hh : f45 rn k n0 h = some (v, h1)) (hp : plainO v = false) : ∃ h2, rn 45 #[.int .i64 n0] h = some (v, h2) ∧ Sm h1 h2 ∧ (Ext h h1 → Exw h h2) := trunc_cell hp (t45 hh)

noncomputable def f86 (_rec : Rec) (_k : Nat) (v0 : Value) (n0 : Int) (n1 : Int) (h0 : H) : Option (Value × H) :=
  six v0 n0 1 fun b0 b1 =>
  ld Tryd.prog h0 3 b0 b1 fun v1 =>
  asI .i64 v1 fun n2 =>
  nn n1 (
    six v0 n0 1 fun b2 b3 =>
    st Tryd.prog h0 3 b2 b3 (.int .i64 (or .i64 n2 (shl .i64 1 n1))) fun h1 =>
    six v0 n1 1 fun b4 b5 =>
    ld Tryd.prog h1 3 b4 b5 fun v2 =>
    asI .i64 v2 fun n3 =>
    nn n0 (
      six v0 n1 1 fun b6 b7 =>
      st Tryd.prog h1 3 b6 b7 (.int .i64 (or .i64 n3 (shl .i64 1 n0))) fun h2 =>
      some (undef, h2)))

theorem e86 (rec : Rec) (k : Nat) (v0 : Value) (n0 : Int) (n1 : Int) (h : H) : bodyT Tryd.prog E0 SC (XC Tryd.prog rec k) 86 (Value × H) [.opq v0, .int .i64 n0, .int .i64 n1] h (fun v h => some (v, h)) = f86 rec k v0 n0 n1 h := by kernel_rfl

theorem t86 {k : Nat} {v0 : Value} {n0 : Int} {n1 : Int} {h h1 : H} {v : Value} (hh : f86 rn k v0 n0 n1 h = some (v, h1)) : rn 86 #[v0, .int .i64 n0, .int .i64 n1] h = some (v, trunc Tryd.prog h h1 v) :=
  run_of_bodyT (args := [.opq v0, .int .i64 n0, .int .i64 n1]) rfl ((e86 _ _ _ _ _ _).trans hh)

theorem x86 {k : Nat} {v0 : Value} {n0 : Int} {n1 : Int} {h h1 : H} {v : Value} (hh : f86 rn k v0 n0 n1 h = some (v, h1)) (hp : plainO v = false) : ∃ h2, rn 86 #[v0, .int .i64 n0, .int .i64 n1] h = some (v, h2) ∧ Sm h1 h2 ∧ (Ext h h1 → Exw h h2) := trunc_cell hp (t86 hh)

noncomputable def f47_l1 (rec : Rec) (_k : Nat) (v0 : Value) (h0 : H) (ws0 : List Value) (h2 : H) : Option (Ex × List Value × H) :=
  calls rec h2 57 [v0] fun v3 h3 =>
  asI .i64 v3 fun n0 =>
  asI .i64 (gv ws0 0) fun n1 =>
  ifB (le n1 n0) (
    calls rec h3 87 [v0, gv ws0 0] fun v4 h4 =>
    asB v4 fun q0 =>
    ifB q0 (
      ld Tryd.prog h4 22 (nx h0) (off 0 2) fun v5 =>
      bls Tryd.prog h4 22 1 [(0, gv ws0 0)] fun v6 h5 =>
      app Tryd.prog h5 22 22 v5 v6 fun v7 h6 =>
      st Tryd.prog h6 22 (nx h0) (off 0 2) v7 fun h7 =>
      asI .i64 (gv ws0 0) fun n2 =>
      out .normal [(.int .i64 (add .i64 n2 1))] h7) (
      asI .i64 (gv ws0 0) fun n3 =>
      out .normal [(.int .i64 (add .i64 n3 1))] h4)) (
    out (.exit 0) [gv ws0 0] h3)

noncomputable def f47_l2 (rec : Rec) (_k : Nat) (v0 : Value) (h0 : H) (ws2 : List Value) (h9 : H) : Option (Ex × List Value × H) :=
  len v0 fun n5 =>
  asI .i64 (gv ws2 1) fun n6 =>
  ifB (le n6 n5) (
    calls rec h9 88 [(pt (nx h0) 0), (.int .i64 0), gv ws2 1] fun v8 h10 =>
    asB v8 fun q1 =>
    ifB q1 (
      ld Tryd.prog h10 22 (nx h0) (off 0 3) fun v9 =>
      out .ret [v9, gv ws2 1] h10) (
      asI .i64 (gv ws2 1) fun n7 =>
      out .normal [gv ws2 0, (.int .i64 (add .i64 n7 1))] h10)) (
    out (.exit 2) [gv ws2 0, gv ws2 1] h9)

noncomputable def f47 (rec : Rec) (k : Nat) (v0 : Value) (v1 : Value) (h0 : H) : Option (Value × H) :=
  bld Tryd.prog 128 [(0, v0), (1, v1)] fun v2 =>
  bx h0 128 v2 fun h1 =>
  lp k (f47_l1 rec k v0 h0) [(.int .i64 1)] h1 fun e0 _ h8 =>
  onE e0 0 (
    len v1 fun n4 =>
    lp k (f47_l2 rec k v0 h0) [(.slice none 0 0), (.int .i64 n4)] h8 fun e1 ws3 h11 =>
    onE e1 2 (
      some ((.slice none 0 0), h11)) (
      onR e1 (
        some (gv ws3 0, h11)))) (
    none)

theorem e47 (rec : Rec) (k : Nat) (v0 : Value) (v1 : Value) (h : H) : bodyT Tryd.prog E0 SC (XC Tryd.prog rec k) 47 (Value × H) [.opq v0, .opq v1] h (fun v h => some (v, h)) = f47 rec k v0 v1 h := by kernel_rfl

theorem t47 {k : Nat} {v0 : Value} {v1 : Value} {h h1 : H} {v : Value} (hh : f47 rn k v0 v1 h = some (v, h1)) : rn 47 #[v0, v1] h = some (v, trunc Tryd.prog h h1 v) :=
  run_of_bodyT (args := [.opq v0, .opq v1]) rfl ((e47 _ _ _ _ _).trans hh)

theorem x47 {k : Nat} {v0 : Value} {v1 : Value} {h h1 : H} {v : Value} (hh : f47 rn k v0 v1 h = some (v, h1)) (hp : plainO v = false) : ∃ h2, rn 47 #[v0, v1] h = some (v, h2) ∧ Sm h1 h2 ∧ (Ext h h1 → Exw h h2) := trunc_cell hp (t47 hh)

noncomputable def f87_l1 (rec : Rec) (_k : Nat) (v0 : Value) (n0 : Int) (ws0 : List Value) (h1 : H) : Option (Ex × List Value × H) :=
  calls rec h1 110 [v0, gv ws0 2] fun v1 h2 =>
  asI .i64 v1 fun n1 =>
  asI .i64 (gv ws0 2) fun n2 =>
  asI .i64 (gv ws0 2) fun n3 =>
  ifB (eq (or .i64 n2 (and .i64 n1 n0)) n3) (
    asI .i64 (gv ws0 2) fun n4 =>
    out .ret [(.int .i64 (or .i64 n2 (and .i64 n1 n0))), (.bool (eq n4 n0)), gv ws0 2] h2) (
    out .normal [(.int .i64 (or .i64 n2 (and .i64 n1 n0))), gv ws0 1, (.int .i64 (or .i64 n2 (and .i64 n1 n0)))] h2)

noncomputable def f87 (rec : Rec) (k : Nat) (v0 : Value) (n0 : Int) (h0 : H) : Option (Value × H) :=
  ifB (eq n0 0) (
    some ((.bool false), h0)) (
    lp k (f87_l1 rec k v0 n0) [(.int .i64 (and .i64 n0 (sub .i64 0 n0))), (.bool false), (.int .i64 (and .i64 n0 (sub .i64 0 n0)))] h0 fun e0 ws1 h3 =>
    onR e0 (
      some (gv ws1 1, h3)))

theorem e87 (rec : Rec) (k : Nat) (v0 : Value) (n0 : Int) (h : H) : bodyT Tryd.prog E0 SC (XC Tryd.prog rec k) 87 (Value × H) [.opq v0, .int .i64 n0] h (fun v h => some (v, h)) = f87 rec k v0 n0 h := by kernel_rfl

theorem t87 {k : Nat} {v0 : Value} {n0 : Int} {h h1 : H} {v : Value} (hh : f87 rn k v0 n0 h = some (v, h1)) : rn 87 #[v0, .int .i64 n0] h = some (v, trunc Tryd.prog h h1 v) :=
  run_of_bodyT (args := [.opq v0, .int .i64 n0]) rfl ((e87 _ _ _ _ _).trans hh)

theorem p87 {k : Nat} {v0 : Value} {n0 : Int} {h h1 : H} {v : Value} (hh : f87 rn k v0 n0 h = some (v, h1)) (hp : plainO v = true) (x : Ext h h1) : rn 87 #[v0, .int .i64 n0] h = some (v, h) := by rw [t87 hh, trunc_pure hp x]

theorem y87 {k : Nat} {v0 : Value} {n0 : Int} {h : H} {v : Value} (hh : f87 rn k v0 n0 h = some (v, h)) : rn 87 #[v0, .int .i64 n0] h = some (v, h) := by rw [t87 hh, trunc_self]

noncomputable def f110_l1 (_rec : Rec) (_k : Nat) (v0 : Value) (v1 : Value) (n1 : Int) (ws0 : List Value) (h2 : H) : Option (Ex × List Value × H) :=
  asI .i64 (gv ws0 1) fun n2 =>
  ifB (lt n2 n1) (
    asK (gv ws0 1) fun n3 =>
    six v1 n3 1 fun b0 b1 =>
    ld Tryd.prog h2 3 b0 b1 fun v2 =>
    asI .i64 v2 fun n4 =>
    six v0 n4 1 fun b2 b3 =>
    ld Tryd.prog h2 3 b2 b3 fun v3 =>
    asI .i64 v3 fun n5 =>
    asI .i64 (gv ws0 0) fun n6 =>
    asI .i64 (gv ws0 1) fun n7 =>
    out .normal [(.int .i64 (or .i64 n6 n5)), (.int .i64 (add .i64 n7 1))] h2) (
    out (.exit 0) [gv ws0 0, gv ws0 1] h2)

noncomputable def f110 (rec : Rec) (k : Nat) (v0 : Value) (n0 : Int) (h0 : H) : Option (Value × H) :=
  calls rec h0 49 [(.int .i64 n0)] fun v1 h1 =>
  len v1 fun n1 =>
  lp k (f110_l1 rec k v0 v1 n1) [(.int .i64 0), (.int .i64 0)] h1 fun e0 ws1 h3 =>
  onE e0 0 (
    some (gv ws1 0, h3)) (
    none)

theorem e110 (rec : Rec) (k : Nat) (v0 : Value) (n0 : Int) (h : H) : bodyT Tryd.prog E0 SC (XC Tryd.prog rec k) 110 (Value × H) [.opq v0, .int .i64 n0] h (fun v h => some (v, h)) = f110 rec k v0 n0 h := by kernel_rfl

theorem t110 {k : Nat} {v0 : Value} {n0 : Int} {h h1 : H} {v : Value} (hh : f110 rn k v0 n0 h = some (v, h1)) : rn 110 #[v0, .int .i64 n0] h = some (v, trunc Tryd.prog h h1 v) :=
  run_of_bodyT (args := [.opq v0, .int .i64 n0]) rfl ((e110 _ _ _ _ _).trans hh)

theorem p110 {k : Nat} {v0 : Value} {n0 : Int} {h h1 : H} {v : Value} (hh : f110 rn k v0 n0 h = some (v, h1)) (hp : plainO v = true) (x : Ext h h1) : rn 110 #[v0, .int .i64 n0] h = some (v, h) := by rw [t110 hh, trunc_pure hp x]

noncomputable def f111 (rec : Rec) (_k : Nat) (n0 : Int) (h0 : H) : Option (Value × H) :=
  calls rec h0 64 [(.int .u64 (wr .u64 n0))] fun v0 h1 =>
  asI .i64 v0 fun n1 =>
  some ((.int .i64 n1), h1)

theorem e111 (rec : Rec) (k : Nat) (n0 : Int) (h : H) : bodyT Tryd.prog E0 SC (XC Tryd.prog rec k) 111 (Value × H) [.int .i64 n0] h (fun v h => some (v, h)) = f111 rec k n0 h := by kernel_rfl

theorem t111 {k : Nat} {n0 : Int} {h h1 : H} {v : Value} (hh : f111 rn k n0 h = some (v, h1)) : rn 111 #[.int .i64 n0] h = some (v, trunc Tryd.prog h h1 v) :=
  run_of_bodyT (args := [.int .i64 n0]) rfl ((e111 _ _ _ _).trans hh)

theorem p111 {k : Nat} {n0 : Int} {h h1 : H} {v : Value} (hh : f111 rn k n0 h = some (v, h1)) (hp : plainO v = true) (x : Ext h h1) : rn 111 #[.int .i64 n0] h = some (v, h) := by rw [t111 hh, trunc_pure hp x]

noncomputable def f88_l1 (rec : Rec) (_k : Nat) (v0 : Value) (n0 : Int) (n1 : Int) (n2 : Int) (n4 : Int) (v4 : Value) (n5 : Int) (ws0 : List Value) (h1 : H) : Option (Ex × List Value × H) :=
  asI .i64 (gv ws0 1) fun n6 =>
  ifB (lt n6 n5) (
    asK (gv ws0 1) fun n7 =>
    six v4 n7 1 fun b8 b9 =>
    ld Tryd.prog h1 3 b8 b9 fun v5 =>
    asI .i64 v5 fun n8 =>
    ifB (not (eq (and .i64 n8 n0) 0)) (
      asI .i64 (gv ws0 1) fun n9 =>
      out .normal [gv ws0 0, (.int .i64 (add .i64 n9 1))] h1) (
      calls rec h1 111 [(.int .i64 n8)] fun v6 h2 =>
      asI .i64 v6 fun n10 =>
      ifB (lt (sub .i64 n1 (sub .i64 (sub .i64 n4 n2) 1)) n10) (
        asI .i64 (gv ws0 1) fun n11 =>
        out .normal [gv ws0 0, (.int .i64 (add .i64 n11 1))] h2) (
        ifB (eq (sub .i64 (sub .i64 n4 n2) 1) 0) (
          calls rec h2 111 [(.int .i64 n8)] fun v7 h3 =>
          asI .i64 v7 fun n12 =>
          ifB (not (eq n12 n1)) (
            asI .i64 (gv ws0 1) fun n13 =>
            out .normal [gv ws0 0, (.int .i64 (add .i64 n13 1))] h3) (
            calls rec h3 112 [v0, (.int .i64 n8), (.int .i64 n2)] fun v8 h4 =>
            asB v8 fun q0 =>
            ifB (not q0) (
              asI .i64 (gv ws0 1) fun n14 =>
              out .normal [gv ws0 0, (.int .i64 (add .i64 n14 1))] h4) (
              nil v0 (
                asP v0 fun b10 b11 =>
                ld Tryd.prog h4 22 b10 (off b11 3) fun v9 =>
                bls Tryd.prog h4 22 1 [(0, (.int .i64 n8))] fun v10 h5 =>
                app Tryd.prog h5 22 22 v9 v10 fun v11 h6 =>
                nil v0 (
                  asP v0 fun b12 b13 =>
                  st Tryd.prog h6 22 b12 (off b13 3) v11 fun h7 =>
                  calls rec h7 111 [(.int .i64 n8)] fun v12 h8 =>
                  asI .i64 v12 fun n15 =>
                  calls rec h8 88 [v0, (.int .i64 (or .i64 n0 n8)), (.int .i64 (sub .i64 n1 n15))] fun v13 h9 =>
                  asB v13 fun q1 =>
                  ifB q1 (
                    out .ret [(.bool true), gv ws0 1] h9) (
                    nil v0 (
                      asP v0 fun b14 b15 =>
                      ld Tryd.prog h9 22 b14 (off b15 3) fun v14 =>
                      sli Tryd.prog h9 22 v14 none (some (.int .i64 n2)) none fun v15 =>
                      nil v0 (
                        asP v0 fun b16 b17 =>
                        st Tryd.prog h9 22 b16 (off b17 3) v15 fun h10 =>
                        asI .i64 (gv ws0 1) fun n16 =>
                        out .normal [gv ws0 0, (.int .i64 (add .i64 n16 1))] h10)))))))) (
          calls rec h2 112 [v0, (.int .i64 n8), (.int .i64 n2)] fun v16 h11 =>
          asB v16 fun q2 =>
          ifB (not q2) (
            asI .i64 (gv ws0 1) fun n17 =>
            out .normal [gv ws0 0, (.int .i64 (add .i64 n17 1))] h11) (
            nil v0 (
              asP v0 fun b18 b19 =>
              ld Tryd.prog h11 22 b18 (off b19 3) fun v17 =>
              bls Tryd.prog h11 22 1 [(0, (.int .i64 n8))] fun v18 h12 =>
              app Tryd.prog h12 22 22 v17 v18 fun v19 h13 =>
              nil v0 (
                asP v0 fun b20 b21 =>
                st Tryd.prog h13 22 b20 (off b21 3) v19 fun h14 =>
                calls rec h14 111 [(.int .i64 n8)] fun v20 h15 =>
                asI .i64 v20 fun n18 =>
                calls rec h15 88 [v0, (.int .i64 (or .i64 n0 n8)), (.int .i64 (sub .i64 n1 n18))] fun v21 h16 =>
                asB v21 fun q3 =>
                ifB q3 (
                  out .ret [(.bool true), gv ws0 1] h16) (
                  nil v0 (
                    asP v0 fun b22 b23 =>
                    ld Tryd.prog h16 22 b22 (off b23 3) fun v22 =>
                    sli Tryd.prog h16 22 v22 none (some (.int .i64 n2)) none fun v23 =>
                    nil v0 (
                      asP v0 fun b24 b25 =>
                      st Tryd.prog h16 22 b24 (off b25 3) v23 fun h17 =>
                      asI .i64 (gv ws0 1) fun n19 =>
                      out .normal [gv ws0 0, (.int .i64 (add .i64 n19 1))] h17)))))))))) (
    out (.exit 0) [gv ws0 0, gv ws0 1] h1)

noncomputable def f88 (rec : Rec) (k : Nat) (v0 : Value) (n0 : Int) (n1 : Int) (h0 : H) : Option (Value × H) :=
  nil v0 (
    asP v0 fun b0 b1 =>
    ld Tryd.prog h0 22 b0 (off b1 3) fun v1 =>
    len v1 fun n2 =>
    nil v0 (
      asP v0 fun b2 b3 =>
      ld Tryd.prog h0 84 b2 (off b3 1) fun v2 =>
      len v2 fun n3 =>
      ifB (eq n2 n3) (
        some ((.bool true), h0)) (
        nil v0 (
          asP v0 fun b4 b5 =>
          ld Tryd.prog h0 84 b4 (off b5 1) fun v3 =>
          len v3 fun n4 =>
          nil v0 (
            asP v0 fun b6 b7 =>
            ld Tryd.prog h0 22 b6 (off b7 2) fun v4 =>
            len v4 fun n5 =>
            lp k (f88_l1 rec k v0 n0 n1 n2 n4 v4 n5) [(.bool false), (.int .i64 0)] h0 fun e0 ws1 h18 =>
            onE e0 0 (
              some ((.bool false), h18)) (
              onR e0 (
                some (gv ws1 0, h18))))))))

theorem e88 (rec : Rec) (k : Nat) (v0 : Value) (n0 : Int) (n1 : Int) (h : H) : bodyT Tryd.prog E0 SC (XC Tryd.prog rec k) 88 (Value × H) [.opq v0, .int .i64 n0, .int .i64 n1] h (fun v h => some (v, h)) = f88 rec k v0 n0 n1 h := by kernel_rfl

theorem t88 {k : Nat} {v0 : Value} {n0 : Int} {n1 : Int} {h h1 : H} {v : Value} (hh : f88 rn k v0 n0 n1 h = some (v, h1)) : rn 88 #[v0, .int .i64 n0, .int .i64 n1] h = some (v, trunc Tryd.prog h h1 v) :=
  run_of_bodyT (args := [.opq v0, .int .i64 n0, .int .i64 n1]) rfl ((e88 _ _ _ _ _ _).trans hh)

theorem y88 {k : Nat} {v0 : Value} {n0 : Int} {n1 : Int} {h : H} {v : Value} (hh : f88 rn k v0 n0 n1 h = some (v, h)) : rn 88 #[v0, .int .i64 n0, .int .i64 n1] h = some (v, h) := by rw [t88 hh, trunc_self]

noncomputable def f112 (rec : Rec) (_k : Nat) (v0 : Value) (n0 : Int) (n1 : Int) (h0 : H) : Option (Value × H) :=
  bx h0 126 v0 fun h1 =>
  ld Tryd.prog h1 126 (nx h0) 0 fun v1 =>
  nil v1 (
    asP v1 fun b0 b1 =>
    ld Tryd.prog h1 84 b0 b1 fun v2 =>
    calls rec h1 110 [v2, (.int .i64 n0)] fun v3 h2 =>
    asI .i64 v3 fun n2 =>
    al h2 3 [(.int .i64 0)] fun h3 =>
    st Tryd.prog h3 3 (nx h2) 0 (.int .i64 n2) fun h4 =>
    ld Tryd.prog h4 126 (nx h0) 0 fun v4 =>
    nil v4 (
      asP v4 fun b2 b3 =>
      ld Tryd.prog h4 84 b2 (off b3 1) fun v5 =>
      six v5 n1 1 fun b4 b5 =>
      ld Tryd.prog h4 3 b4 b5 fun v6 =>
      asI .i64 v6 fun n3 =>
      nn n1 (
        calls rec h4 49 [(.int .i64 (and .i64 n3 (sub .i64 (shl .i64 1 n1) 1)))] fun v7 h5 =>
        calls rec h5 52 [v7, (.func (.func 120) #[] #[(pt (nx h0) 0), (pt (nx h2) 0)])] fun v8 h6 =>
        asB v8 fun q0 =>
        some ((.bool (not q0)), h6))))

theorem e112 (rec : Rec) (k : Nat) (v0 : Value) (n0 : Int) (n1 : Int) (h : H) : bodyT Tryd.prog E0 SC (XC Tryd.prog rec k) 112 (Value × H) [.opq v0, .int .i64 n0, .int .i64 n1] h (fun v h => some (v, h)) = f112 rec k v0 n0 n1 h := by kernel_rfl

theorem t112 {k : Nat} {v0 : Value} {n0 : Int} {n1 : Int} {h h1 : H} {v : Value} (hh : f112 rn k v0 n0 n1 h = some (v, h1)) : rn 112 #[v0, .int .i64 n0, .int .i64 n1] h = some (v, trunc Tryd.prog h h1 v) :=
  run_of_bodyT (args := [.opq v0, .int .i64 n0, .int .i64 n1]) rfl ((e112 _ _ _ _ _ _).trans hh)

theorem p112 {k : Nat} {v0 : Value} {n0 : Int} {n1 : Int} {h h1 : H} {v : Value} (hh : f112 rn k v0 n0 n1 h = some (v, h1)) (hp : plainO v = true) (x : Ext h h1) : rn 112 #[v0, .int .i64 n0, .int .i64 n1] h = some (v, h) := by rw [t112 hh, trunc_pure hp x]

noncomputable def f120 (_rec : Rec) (_k : Nat) (n0 : Int) (v0 : Value) (v1 : Value) (h0 : H) : Option (Value × H) :=
  asP v0 fun _ _ =>
  asP v0 fun b2 b3 =>
  ld Tryd.prog h0 126 b2 b3 fun v2 =>
  nil v2 (
    asP v2 fun b4 b5 =>
    ld Tryd.prog h0 22 b4 (off b5 3) fun v3 =>
    six v3 n0 1 fun b6 b7 =>
    ld Tryd.prog h0 3 b6 b7 fun v4 =>
    asI .i64 v4 fun n1 =>
    asP v1 fun _ _ =>
    asP v1 fun b10 b11 =>
    ld Tryd.prog h0 3 b10 b11 fun v5 =>
    asI .i64 v5 fun n2 =>
    some ((.bool (eq (and .i64 n1 n2) 0)), h0))

theorem e120 (rec : Rec) (k : Nat) (n0 : Int) (v0 : Value) (v1 : Value) (h : H) : bodyT Tryd.prog E0 SC (XC Tryd.prog rec k) 120 (Value × H) [.int .i64 n0, .opq v0, .opq v1] h (fun v h => some (v, h)) = f120 rec k n0 v0 v1 h := by kernel_rfl

theorem t120 {k : Nat} {n0 : Int} {v0 : Value} {v1 : Value} {h h1 : H} {v : Value} (hh : f120 rn k n0 v0 v1 h = some (v, h1)) : rn 120 #[.int .i64 n0, v0, v1] h = some (v, trunc Tryd.prog h h1 v) :=
  run_of_bodyT (args := [.int .i64 n0, .opq v0, .opq v1]) rfl ((e120 _ _ _ _ _ _).trans hh)

theorem y120 {k : Nat} {n0 : Int} {v0 : Value} {v1 : Value} {h : H} {v : Value} (hh : f120 rn k n0 v0 v1 h = some (v, h)) : rn 120 #[.int .i64 n0, v0, v1] h = some (v, h) := by rw [t120 hh, trunc_self]

noncomputable def f19 (rec : Rec) (_k : Nat) (v0 : Value) (v1 : Value) (h0 : H) : Option (Value × H) :=
  calls rec h0 46 [v0, (.int .i64 8)] fun v2 h1 =>
  ext v2 0 fun v3 =>
  ext v2 1 fun v4 =>
  asB v4 fun q0 =>
  calls rec h1 46 [v1, (.int .i64 6)] fun v5 h2 =>
  ext v5 0 fun v6 =>
  ext v5 1 fun v7 =>
  asB v7 fun q1 =>
  ifB (not q0) (
    some ((.tuple #[(.slice none 0 0), (.int .i64 2)]), h2)) (
    ifB (not q1) (
      some ((.tuple #[(.slice none 0 0), (.int .i64 2)]), h2)) (
      calls rec h2 47 [v3, v6] fun v8 h3 =>
      eqv Tryd.prog 22 v8 (.slice none 0 0) fun q2 =>
      ifB q2 (
        some ((.tuple #[(.slice none 0 0), (.int .i64 4)]), h3)) (
        some ((.tuple #[v8, (.int .i64 0)]), h3))))

theorem e19 (rec : Rec) (k : Nat) (v0 : Value) (v1 : Value) (h : H) : bodyT Tryd.prog E0 SC (XC Tryd.prog rec k) 19 (Value × H) [.opq v0, .opq v1] h (fun v h => some (v, h)) = f19 rec k v0 v1 h := by kernel_rfl

theorem t19 {k : Nat} {v0 : Value} {v1 : Value} {h h1 : H} {v : Value} (hh : f19 rn k v0 v1 h = some (v, h1)) : rn 19 #[v0, v1] h = some (v, trunc Tryd.prog h h1 v) :=
  run_of_bodyT (args := [.opq v0, .opq v1]) rfl ((e19 _ _ _ _ _).trans hh)

theorem x19 {k : Nat} {v0 : Value} {v1 : Value} {h h1 : H} {v : Value} (hh : f19 rn k v0 v1 h = some (v, h1)) (hp : plainO v = false) : ∃ h2, rn 19 #[v0, v1] h = some (v, h2) ∧ Sm h1 h2 ∧ (Ext h h1 → Exw h h2) := trunc_cell hp (t19 hh)

noncomputable def f48 (rec : Rec) (_k : Nat) (v0 : Value) (h0 : H) : Option (Value × H) :=
  calls rec h0 89 [v0] fun v1 h1 =>
  calls rec h1 57 [v0] fun v2 h2 =>
  asI .i64 v2 fun n0 =>
  bld Tryd.prog 92 [(0, v1), (1, (.int .i64 n0))] fun v3 =>
  bx h2 92 v3 fun h3 =>
  some ((pt (nx h2) 0), h3)

theorem e48 (rec : Rec) (k : Nat) (v0 : Value) (h : H) : bodyT Tryd.prog E0 SC (XC Tryd.prog rec k) 48 (Value × H) [.opq v0] h (fun v h => some (v, h)) = f48 rec k v0 h := by kernel_rfl

theorem t48 {k : Nat} {v0 : Value} {h h1 : H} {v : Value} (hh : f48 rn k v0 h = some (v, h1)) : rn 48 #[v0] h = some (v, trunc Tryd.prog h h1 v) :=
  run_of_bodyT (args := [.opq v0]) rfl ((e48 _ _ _ _).trans hh)

theorem x48 {k : Nat} {v0 : Value} {h h1 : H} {v : Value} (hh : f48 rn k v0 h = some (v, h1)) (hp : plainO v = false) : ∃ h2, rn 48 #[v0] h = some (v, h2) ∧ Sm h1 h2 ∧ (Ext h h1 → Exw h h2) := trunc_cell hp (t48 hh)

noncomputable def f89 (_rec : Rec) (_k : Nat) (v0 : Value) (h0 : H) : Option (Value × H) :=
  eqv Tryd.prog 84 v0 (.slice none 0 0) fun q0 =>
  ifB q0 (
    some ((.slice none 0 0), h0)) (
    bls Tryd.prog h0 84 0 [] fun v1 h1 =>
    app Tryd.prog h1 84 84 v1 v0 fun v2 h2 =>
    some (v2, h2))

theorem e89 (rec : Rec) (k : Nat) (v0 : Value) (h : H) : bodyT Tryd.prog E0 SC (XC Tryd.prog rec k) 89 (Value × H) [.opq v0] h (fun v h => some (v, h)) = f89 rec k v0 h := by kernel_rfl

theorem t89 {k : Nat} {v0 : Value} {h h1 : H} {v : Value} (hh : f89 rn k v0 h = some (v, h1)) : rn 89 #[v0] h = some (v, trunc Tryd.prog h h1 v) :=
  run_of_bodyT (args := [.opq v0]) rfl ((e89 _ _ _ _).trans hh)

theorem x89 {k : Nat} {v0 : Value} {h h1 : H} {v : Value} (hh : f89 rn k v0 h = some (v, h1)) (hp : plainO v = false) : ∃ h2, rn 89 #[v0] h = some (v, h2) ∧ Sm h1 h2 ∧ (Ext h h1 → Exw h h2) := trunc_cell hp (t89 hh)

noncomputable def f50 (rec : Rec) (_k : Nat) (v0 : Value) (n0 : Int) (h0 : H) : Option (Value × H) :=
  al h0 95 [(.int .i64 0), (.int .i64 0), (.int .i64 0), (.int .i64 0)] fun h1 =>
  nil v0 (
    asP v0 fun b0 b1 =>
    ld Tryd.prog h1 84 b0 b1 fun v1 =>
    six v1 n0 1 fun b2 b3 =>
    ld Tryd.prog h1 3 b2 b3 fun v2 =>
    asI .i64 v2 fun n1 =>
    nil v0 (
      asP v0 fun b4 b5 =>
      ld Tryd.prog h1 3 b4 (off b5 1) fun v3 =>
      asI .i64 v3 fun n2 =>
      calls rec h1 49 [(.int .i64 (and .i64 n1 n2))] fun v4 h2 =>
      len v4 fun n3 =>
      bld Tryd.prog 95 [(0, (.int .i64 n3)), (1, (.int .i64 n0)), (2, (.int .i64 (-1))), (3, (.int .i64 (-1)))] fun v5 =>
      al h2 95 [(.int .i64 0), (.int .i64 0), (.int .i64 0), (.int .i64 0)] fun h3 =>
      st Tryd.prog h3 95 (nx h2) 0 v5 fun h4 =>
      len v4 fun n4 =>
      ifB (eq n4 1) (
        six v4 0 1 fun b6 b7 =>
        ld Tryd.prog h4 3 b6 b7 fun v6 =>
        asI .i64 v6 fun n5 =>
        st Tryd.prog h4 3 (nx h2) (off 0 2) (.int .i64 n5) fun h5 =>
        ld Tryd.prog h5 95 (nx h2) 0 fun v7 =>
        len v4 fun n6 =>
        st Tryd.prog h5 95 (nx h0) 0 v7 fun h6 =>
        ld Tryd.prog h6 95 (nx h0) 0 fun v8 =>
        some ((.tuple #[v8, (.bool (le n6 2))]), h6)) (
        ifB (eq n4 2) (
          six v4 0 1 fun b8 b9 =>
          ld Tryd.prog h4 3 b8 b9 fun v9 =>
          asI .i64 v9 fun n7 =>
          six v4 1 1 fun b10 b11 =>
          ld Tryd.prog h4 3 b10 b11 fun v10 =>
          asI .i64 v10 fun n8 =>
          st Tryd.prog h4 3 (nx h2) (off 0 2) (.int .i64 n7) fun h7 =>
          ck (fre b10 (nx h4) b11 1 (nx h2) (off 0 2) 1) (
            st Tryd.prog h7 3 (nx h2) (off 0 3) (.int .i64 n8) fun h8 =>
            ld Tryd.prog h8 95 (nx h2) 0 fun v11 =>
            len v4 fun n9 =>
            st Tryd.prog h8 95 (nx h0) 0 v11 fun h9 =>
            ld Tryd.prog h9 95 (nx h0) 0 fun v12 =>
            some ((.tuple #[v12, (.bool (le n9 2))]), h9))) (
          ld Tryd.prog h4 95 (nx h2) 0 fun v13 =>
          len v4 fun n10 =>
          st Tryd.prog h4 95 (nx h0) 0 v13 fun h10 =>
          ld Tryd.prog h10 95 (nx h0) 0 fun v14 =>
          some ((.tuple #[v14, (.bool (le n10 2))]), h10)))))

theorem e50 (rec : Rec) (k : Nat) (v0 : Value) (n0 : Int) (h : H) : bodyT Tryd.prog E0 SC (XC Tryd.prog rec k) 50 (Value × H) [.opq v0, .int .i64 n0] h (fun v h => some (v, h)) = f50 rec k v0 n0 h := by kernel_rfl

theorem t50 {k : Nat} {v0 : Value} {n0 : Int} {h h1 : H} {v : Value} (hh : f50 rn k v0 n0 h = some (v, h1)) : rn 50 #[v0, .int .i64 n0] h = some (v, trunc Tryd.prog h h1 v) :=
  run_of_bodyT (args := [.opq v0, .int .i64 n0]) rfl ((e50 _ _ _ _ _).trans hh)

theorem p50 {k : Nat} {v0 : Value} {n0 : Int} {h h1 : H} {v : Value} (hh : f50 rn k v0 n0 h = some (v, h1)) (hp : plainO v = true) (x : Ext h h1) : rn 50 #[v0, .int .i64 n0] h = some (v, h) := by rw [t50 hh, trunc_pure hp x]

noncomputable def f51 (rec : Rec) (_k : Nat) (v0 : Value) (v1 : Value) (h0 : H) : Option (Value × H) :=
  bx h0 95 v1 fun h1 =>
  nil v0 (
    asP v0 fun b0 b1 =>
    ld Tryd.prog h1 3 b0 (off b1 1) fun v2 =>
    asI .i64 v2 fun n0 =>
    ld Tryd.prog h1 3 (nx h0) (off 0 1) fun v3 =>
    asI .i64 v3 fun n1 =>
    nn n1 (
      nil v0 (
        asP v0 fun b2 b3 =>
        st Tryd.prog h1 3 b2 (off b3 1) (.int .i64 (andNot .i64 n0 (shl .i64 1 n1))) fun h2 =>
        ld Tryd.prog h2 3 (nx h0) 0 fun v4 =>
        asI .i64 v4 fun n2 =>
        ifB (eq n2 2) (
          nil v0 (
            asP v0 fun b4 b5 =>
            ld Tryd.prog h2 84 b4 b5 fun v5 =>
            ld Tryd.prog h2 3 (nx h0) (off 0 2) fun v6 =>
            asI .i64 v6 fun n3 =>
            ld Tryd.prog h2 3 (nx h0) (off 0 3) fun v7 =>
            asI .i64 v7 fun n4 =>
            calls rec h2 86 [v5, (.int .i64 n3), (.int .i64 n4)] fun _ h3 =>
            some (undef, h3))) (
          some (undef, h2)))))

theorem e51 (rec : Rec) (k : Nat) (v0 : Value) (v1 : Value) (h : H) : bodyT Tryd.prog E0 SC (XC Tryd.prog rec k) 51 (Value × H) [.opq v0, .opq v1] h (fun v h => some (v, h)) = f51 rec k v0 v1 h := by kernel_rfl

theorem t51 {k : Nat} {v0 : Value} {v1 : Value} {h h1 : H} {v : Value} (hh : f51 rn k v0 v1 h = some (v, h1)) : rn 51 #[v0, v1] h = some (v, trunc Tryd.prog h h1 v) :=
  run_of_bodyT (args := [.opq v0, .opq v1]) rfl ((e51 _ _ _ _ _).trans hh)

theorem x51 {k : Nat} {v0 : Value} {v1 : Value} {h h1 : H} {v : Value} (hh : f51 rn k v0 v1 h = some (v, h1)) (hp : plainO v = false) : ∃ h2, rn 51 #[v0, v1] h = some (v, h2) ∧ Sm h1 h2 ∧ (Ext h h1 → Exw h h2) := trunc_cell hp (t51 hh)

noncomputable def f20_l2 (rec : Rec) (_k : Nat) (v4 : Value) (v7 : Value) (n2 : Int) (ws1 : List Value) (h5 : H) : Option (Ex × List Value × H) :=
  asI .i64 (gv ws1 2) fun n3 =>
  ifB (lt n3 n2) (
    asK (gv ws1 2) fun n4 =>
    six v7 n4 1 fun b4 b5 =>
    ld Tryd.prog h5 3 b4 b5 fun v8 =>
    asI .i64 v8 fun n5 =>
    calls rec h5 50 [v4, (.int .i64 n5)] fun v9 h6 =>
    ext v9 0 fun v10 =>
    ext v9 1 fun v11 =>
    asB v11 fun q1 =>
    al h6 95 [(.int .i64 0), (.int .i64 0), (.int .i64 0), (.int .i64 0)] fun h7 =>
    st Tryd.prog h7 95 (nx h6) 0 v10 fun h8 =>
    ifB q1 (
      ld Tryd.prog h8 95 (nx h6) 0 fun v12 =>
      calls rec h8 51 [v4, v12] fun _ h9 =>
      ld Tryd.prog h9 95 (nx h6) 0 fun v14 =>
      bls Tryd.prog h9 39 1 [(0, v14)] fun v15 h10 =>
      app Tryd.prog h10 39 39 (gv ws1 0) v15 fun v16 h11 =>
      out (.exit 2) [v16, (.bool true), gv ws1 2] h11) (
      asI .i64 (gv ws1 2) fun n6 =>
      out .normal [gv ws1 0, gv ws1 1, (.int .i64 (add .i64 n6 1))] h8)) (
    out (.exit 2) [gv ws1 0, gv ws1 1, gv ws1 2] h5)

noncomputable def f20_l1 (rec : Rec) (k : Nat) (v4 : Value) (ws0 : List Value) (h3 : H) : Option (Ex × List Value × H) :=
  nil v4 (
    asP v4 fun b0 b1 =>
    ld Tryd.prog h3 3 b0 (off b1 1) fun v5 =>
    asI .i64 v5 fun n0 =>
    ifB (not (eq n0 0)) (
      nil v4 (
        asP v4 fun b2 b3 =>
        ld Tryd.prog h3 3 b2 (off b3 1) fun v6 =>
        asI .i64 v6 fun n1 =>
        calls rec h3 49 [(.int .i64 n1)] fun v7 h4 =>
        len v7 fun n2 =>
        lp k (f20_l2 rec k v4 v7 n2) [gv ws0 0, (.bool false), (.int .i64 0)] h4 fun e0 ws2 h12 =>
        onE e0 2 (
          asB (gv ws2 1) fun q2 =>
          ifB (not q2) (
            out .ret [gv ws2 0, (.slice none 0 0), (.int .i64 4)] h12) (
            out .normal [gv ws2 0, gv ws0 1, gv ws0 2] h12)) (
          none))) (
      out (.exit 0) [gv ws0 0, gv ws0 1, gv ws0 2] h3))

noncomputable def f20 (rec : Rec) (k : Nat) (v0 : Value) (h0 : H) : Option (Value × H) :=
  calls rec h0 46 [v0, (.int .i64 8)] fun v1 h1 =>
  ext v1 0 fun v2 =>
  ext v1 1 fun v3 =>
  asB v3 fun q0 =>
  ifB (not q0) (
    some ((.tuple #[(.slice none 0 0), (.int .i64 2)]), h1)) (
    calls rec h1 48 [v2] fun v4 h2 =>
    lp k (f20_l1 rec k v4) [(.slice none 0 0), (.slice none 0 0), (.int .i64 0)] h2 fun e1 ws3 h13 =>
    onE e1 0 (
      some ((.tuple #[gv ws3 0, (.int .i64 0)]), h13)) (
      onR e1 (
        some ((.tuple #[gv ws3 1, gv ws3 2]), h13))))

theorem e20 (rec : Rec) (k : Nat) (v0 : Value) (h : H) : bodyT Tryd.prog E0 SC (XC Tryd.prog rec k) 20 (Value × H) [.opq v0] h (fun v h => some (v, h)) = f20 rec k v0 h := by kernel_rfl

theorem t20 {k : Nat} {v0 : Value} {h h1 : H} {v : Value} (hh : f20 rn k v0 h = some (v, h1)) : rn 20 #[v0] h = some (v, trunc Tryd.prog h h1 v) :=
  run_of_bodyT (args := [.opq v0]) rfl ((e20 _ _ _ _).trans hh)

theorem x20 {k : Nat} {v0 : Value} {h h1 : H} {v : Value} (hh : f20 rn k v0 h = some (v, h1)) (hp : plainO v = false) : ∃ h2, rn 20 #[v0] h = some (v, h2) ∧ Sm h1 h2 ∧ (Ext h h1 → Exw h h2) := trunc_cell hp (t20 hh)

end Go.AM

end

section

/- The staged forms of functions 5, 14, 46, 49, 57, 56, 91, 92, 22, and what calls of these answer. -/
namespace Go.AM
open Go.Proofs
noncomputable def f5 (rec : Rec) (_k : Nat) (v0 : Value) (h0 : H) : Option (Value × H) :=
  calls rec h0 14 [v0] fun v1 h1 =>
  asB v1 fun q0 =>
  ifB (not q0) (
    calls rec h1 15 [] fun v2 h2 =>
    asB v2 fun q1 =>
    some ((.bool q1), h2)) (
    calls rec h1 11 [v0] fun v3 h3 =>
    calls rec h3 21 [v3] fun v4 h4 =>
    ext v4 0 fun v5 =>
    asB v5 fun q2 =>
    ext v4 1 fun v6 =>
    asI .i64 v6 fun n0 =>
    calls rec h4 11 [v0] fun v7 h5 =>
    calls rec h5 22 [v7] fun v8 h6 =>
    ext v8 0 fun _ =>
    ext v8 1 fun v10 =>
    asI .i64 v10 fun n1 =>
    calls rec h6 11 [v0] fun v11 h7 =>
    calls rec h7 12 [v11] fun v12 h8 =>
    ext v12 0 fun v13 =>
    asI .i64 v13 fun n2 =>
    ext v12 1 fun v14 =>
    asI .i64 v14 fun n3 =>
    ifB (eq n0 0) (
      ifB (eq n3 0) (
        ifB (eq n1 0) (
          ifB (not q2) (
            calls rec h8 15 [] fun v15 h9 =>
            asB v15 fun q3 =>
            some ((.bool q3), h9)) (
            ifB (eq n1 0) (
              ifB (le n2 2) (
                calls rec h8 15 [] fun v16 h10 =>
                asB v16 fun q4 =>
                some ((.bool q4), h10)) (
                some ((.bool false), h8))) (
              some ((.bool false), h8)))) (
          ifB (eq n1 4) (
            ifB (not q2) (
              calls rec h8 15 [] fun v17 h11 =>
              asB v17 fun q5 =>
              some ((.bool q5), h11)) (
              ifB (eq n1 0) (
                ifB (le n2 2) (
                  calls rec h8 15 [] fun v18 h12 =>
                  asB v18 fun q6 =>
                  some ((.bool q6), h12)) (
                  some ((.bool false), h8))) (
                some ((.bool false), h8)))) (
            some ((.bool false), h8)))) (
        some ((.bool false), h8))) (
      some ((.bool false), h8)))

theorem e5 (rec : Rec) (k : Nat) (v0 : Value) (h : H) : bodyT Tryd.prog E0 SC (XC Tryd.prog rec k) 5 (Value × H) [.opq v0] h (fun v h => some (v, h)) = f5 rec k v0 h := by kernel_rfl

theorem t5 {k : Nat} {v0 : Value} {h h1 : H} {v : Value} (hh : f5 rn k v0 h = some (v, h1)) : rn 5 #[v0] h = some (v, trunc Tryd.prog h h1 v) :=
  run_of_bodyT (args := [.opq v0]) rfl ((e5 _ _ _ _).trans hh)

theorem x5 {k : Nat} {v0 : Value} {h h1 : H} {v : Value} (hh : f5 rn k v0 h = some (v, h1)) (hp : plainO v = false) : ∃ h2, rn 5 #[v0] h = some (v, h2) ∧ Sm h1 h2 ∧ (Ext h h1 → Exw h h2) := trunc_cell hp (t5 hh)

noncomputable def f14 (rec : Rec) (_k : Nat) (v0 : Value) (h0 : H) : Option (Value × H) :=
  calls rec h0 35 [v0, (.int .i64 8)] fun v1 h1 =>
  asB v1 fun q0 =>
  some ((.bool q0), h1)

theorem e14 (rec : Rec) (k : Nat) (v0 : Value) (h : H) : bodyT Tryd.prog E0 SC (XC Tryd.prog rec k) 14 (Value × H) [.opq v0] h (fun v h => some (v, h)) = f14 rec k v0 h := by kernel_rfl

theorem t14 {k : Nat} {v0 : Value} {h h1 : H} {v : Value} (hh : f14 rn k v0 h = some (v, h1)) : rn 14 #[v0] h = some (v, trunc Tryd.prog h h1 v) :=
  run_of_bodyT (args := [.opq v0]) rfl ((e14 _ _ _ _).trans hh)

theorem p14 {k : Nat} {v0 : Value} {h h1 : H} {v : Value} (hh : f14 rn k v0 h = some (v, h1)) (hp : plainO v = true) (x : Ext h h1) : rn 14 #[v0] h = some (v, h) := by rw [t14 hh, trunc_pure hp x]

theorem x14 {k : Nat} {v0 : Value} {h h1 : H} {v : Value} (hh : f14 rn k v0 h = some (v, h1)) (hp : plainO v = false) : ∃ h2, rn 14 #[v0] h = some (v, h2) ∧ Sm h1 h2 ∧ (Ext h h1 → Exw h h2) := trunc_cell hp (t14 hh)

noncomputable def f46_l2 (_rec : Rec) (_k : Nat) (v0 : Value) (n1 : Int) (ws0 : List Value) (n5 : Int) (ws1 : List Value) (h2 : H) : Option (Ex × List Value × H) :=
  asI .i64 (gv ws1 2) fun n7 =>
  ifB (lt n7 n1) (
    asK (gv ws1 2) fun n8 =>
    nn n8 (
      asK (gv ws1 2) fun n9 =>
      six v0 n9 1 fun b2 b3 =>
      ld Tryd.prog h2 3 b2 b3 fun v2 =>
      asI .i64 v2 fun n10 =>
      asK (gv ws0 2) fun n11 =>
      nn n11 (
        ifB (not (eq (and .i64 (shr .i64 n5 n8) 1) (and .i64 (shr .i64 n10 n11) 1))) (
          out .ret [(.slice none 0 0), (.bool false), gv ws1 2] h2) (
          asI .i64 (gv ws1 2) fun n12 =>
          out .normal [gv ws1 0, gv ws1 1, (.int .i64 (add .i64 n12 1))] h2)))) (
    out (.exit 2) [gv ws1 0, gv ws1 1, gv ws1 2] h2)

noncomputable def f46_l1 (rec : Rec) (k : Nat) (v0 : Value) (n1 : Int) (n2 : Int) (ws0 : List Value) (h1 : H) : Option (Ex × List Value × H) :=
  asI .i64 (gv ws0 2) fun n3 =>
  ifB (lt n3 n2) (
    asK (gv ws0 2) fun n4 =>
    six v0 n4 1 fun b0 b1 =>
    ld Tryd.prog h1 3 b0 b1 fun v1 =>
    asI .i64 v1 fun n5 =>
    ifB (lt n5 0) (
      out .ret [(.slice none 0 0), (.bool false), gv ws0 2] h1) (
      nn n1 (
        ifB (le (shl .i64 1 n1) n5) (
          out .ret [(.slice none 0 0), (.bool false), gv ws0 2] h1) (
          asK (gv ws0 2) fun n6 =>
          nn n6 (
            ifB (eq (and .i64 (shr .i64 n5 n6) 1) 1) (
              out .ret [(.slice none 0 0), (.bool false), gv ws0 2] h1) (
              lp k (f46_l2 rec k v0 n1 ws0 n5) [gv ws0 0, gv ws0 1, (.int .i64 0)] h1 fun e0 ws2 h3 =>
              onE e0 2 (
                asI .i64 (gv ws0 2) fun n13 =>
                out .normal [gv ws2 0, gv ws2 1, (.int .i64 (add .i64 n13 1))] h3) (
                onR e0 (
                  out .ret [gv ws2 0, gv ws2 1, gv ws0 2] h3)))))))) (
    out (.exit 0) [gv ws0 0, gv ws0 1, gv ws0 2] h1)

noncomputable def f46 (rec : Rec) (k : Nat) (v0 : Value) (n0 : Int) (h0 : H) : Option (Value × H) :=
  len v0 fun n1 =>
  ifB (lt n1 1) (
    some ((.tuple #[(.slice none 0 0), (.bool false)]), h0)) (
    ifB (lt n0 n1) (
      some ((.tuple #[(.slice none 0 0), (.bool false)]), h0)) (
      len v0 fun n2 =>
      lp k (f46_l1 rec k v0 n1 n2) [(.slice none 0 0), (.bool false), (.int .i64 0)] h0 fun e1 ws3 h4 =>
      onE e1 0 (
        some ((.tuple #[v0, (.bool true)]), h4)) (
        onR e1 (
          some ((.tuple #[gv ws3 0, gv ws3 1]), h4)))))

theorem e46 (rec : Rec) (k : Nat) (v0 : Value) (n0 : Int) (h : H) : bodyT Tryd.prog E0 SC (XC Tryd.prog rec k) 46 (Value × H) [.opq v0, .int .i64 n0] h (fun v h => some (v, h)) = f46 rec k v0 n0 h := by kernel_rfl

theorem t46 {k : Nat} {v0 : Value} {n0 : Int} {h h1 : H} {v : Value} (hh : f46 rn k v0 n0 h = some (v, h1)) : rn 46 #[v0, .int .i64 n0] h = some (v, trunc Tryd.prog h h1 v) :=
  run_of_bodyT (args := [.opq v0, .int .i64 n0]) rfl ((e46 _ _ _ _ _).trans hh)

theorem y46 {k : Nat} {v0 : Value} {n0 : Int} {h : H} {v : Value} (hh : f46 rn k v0 n0 h = some (v, h)) : rn 46 #[v0, .int .i64 n0] h = some (v, h) := by rw [t46 hh, trunc_self]

noncomputable def f49_l1 (rec : Rec) (_k : Nat)  (ws0 : List Value) (h1 : H) : Option (Ex × List Value × H) :=
  asI .i64 (gv ws0 1) fun n1 =>
  ifB (not (eq n1 0)) (
    asI .i64 (gv ws0 1) fun n2 =>
    calls rec h1 79 [(.int .u64 (wr .u64 n2))] fun v0 h2 =>
    asI .i64 v0 fun n3 =>
    bls Tryd.prog h2 22 1 [(0, (.int .i64 n3))] fun v1 h3 =>
    app Tryd.prog h3 22 22 (gv ws0 0) v1 fun v2 h4 =>
    asI .i64 (gv ws0 1) fun n4 =>
    asI .i64 (gv ws0 1) fun n5 =>
    out .normal [v2, (.int .i64 (and .i64 n5 (sub .i64 n4 1)))] h4) (
    out (.exit 0) [gv ws0 0, gv ws0 1] h1)

noncomputable def f49 (rec : Rec) (k : Nat) (n0 : Int) (h0 : H) : Option (Value × H) :=
  lp k (f49_l1 rec k) [(.slice none 0 0), (.int .i64 n0)] h0 fun e0 ws1 h5 =>
  onE e0 0 (
    some (gv ws1 0, h5)) (
    none)

theorem e49 (rec : Rec) (k : Nat) (n0 : Int) (h : H) : bodyT Tryd.prog E0 SC (XC Tryd.prog rec k) 49 (Value × H) [.int .i64 n0] h (fun v h => some (v, h)) = f49 rec k n0 h := by kernel_rfl

theorem t49 {k : Nat} {n0 : Int} {h h1 : H} {v : Value} (hh : f49 rn k n0 h = some (v, h1)) : rn 49 #[.int .i64 n0] h = some (v, trunc Tryd.prog h h1 v) :=
  run_of_bodyT (args := [.int .i64 n0]) rfl ((e49 _ _ _ _).trans hh)

theorem x49 {k : Nat} {n0 : Int} {h h1 : H} {v : Value} (hh : f49 rn k n0 h = some (v, h1)) (hp : plainO v = false) : ∃ h2, rn 49 #[.int .i64 n0] h = some (v, h2) ∧ Sm h1 h2 ∧ (Ext h h1 → Exw h h2) := trunc_cell hp (t49 hh)

noncomputable def f57 (_rec : Rec) (_k : Nat) (v0 : Value) (h0 : H) : Option (Value × H) :=
  len v0 fun n0 =>
  nn n0 (
    some ((.int .i64 (sub .i64 (shl .i64 1 n0) 1)), h0))

theorem e57 (rec : Rec) (k : Nat) (v0 : Value) (h : H) : bodyT Tryd.prog E0 SC (XC Tryd.prog rec k) 57 (Value × H) [.opq v0] h (fun v h => some (v, h)) = f57 rec k v0 h := by kernel_rfl

theorem t57 {k : Nat} {v0 : Value} {h h1 : H} {v : Value} (hh : f57 rn k v0 h = some (v, h1)) : rn 57 #[v0] h = some (v, trunc Tryd.prog h h1 v) :=
  run_of_bodyT (args := [.opq v0]) rfl ((e57 _ _ _ _).trans hh)

theorem p57 {k : Nat} {v0 : Value} {h h1 : H} {v : Value} (hh : f57 rn k v0 h = some (v, h1)) (hp : plainO v = true) (x : Ext h h1) : rn 57 #[v0] h = some (v, h) := by rw [t57 hh, trunc_pure hp x]

noncomputable def f22 (rec : Rec) (_k : Nat) (v0 : Value) (h0 : H) : Option (Value × H) :=
  calls rec h0 46 [v0, (.int .i64 8)] fun v1 h1 =>
  ext v1 0 fun v2 =>
  ext v1 1 fun v3 =>
  asB v3 fun q0 =>
  ifB (not q0) (
    some ((.tuple #[(.slice none 0 0), (.int .i64 2)]), h1)) (
    calls rec h1 57 [v2] fun v4 h2 =>
    asI .i64 v4 fun n0 =>
    calls rec h2 56 [v2, (.int .i64 n0)] fun v5 h3 =>
    eqv Tryd.prog 22 v5 (.slice none 0 0) fun q1 =>
    ifB q1 (
      some ((.tuple #[(.slice none 0 0), (.int .i64 4)]), h3)) (
      some ((.tuple #[v5, (.int .i64 0)]), h3)))

theorem e22 (rec : Rec) (k : Nat) (v0 : Value) (h : H) : bodyT Tryd.prog E0 SC (XC Tryd.prog rec k) 22 (Value × H) [.opq v0] h (fun v h => some (v, h)) = f22 rec k v0 h := by kernel_rfl

end Go.AM

end

section

/- The staged forms of functions 3, 11, 12, 13, 39, 40, 84, 85, 108, 109, 117, 118, 119, and what calls of these answer. -/
namespace Go.AM
open Go.Proofs
noncomputable def f3_l1 (rec : Rec) (_k : Nat) (v0 : Value) (v6 : Value) (n4 : Int) (ws0 : List Value) (h8 : H) : Option (Ex × List Value × H) :=
  asI .i64 (gv ws0 2) fun n5 =>
  ifB (lt n5 n4) (
    asK (gv ws0 2) fun n6 =>
    six v6 n6 1 fun b0 b1 =>
    ld Tryd.prog h8 3 b0 b1 fun v12 =>
    asI .i64 v12 fun n7 =>
    ifB (lt n7 1) (
      out .ret [(.bool false), gv ws0 1, gv ws0 2] h8) (
      len v0 fun n8 =>
      nn n8 (
        ifB (le (shl .i64 1 n8) n7) (
          out .ret [(.bool false), gv ws0 1, gv ws0 2] h8) (
          calls rec h8 13 [v0, (.int .i64 n7)] fun v13 h9 =>
          calls rec h9 12 [v13] fun v14 h10 =>
          ext v14 0 fun v15 =>
          asI .i64 v15 fun n9 =>
          ext v14 1 fun v16 =>
          asI .i64 v16 fun n10 =>
          ifB (not (eq n10 0)) (
            out .ret [(.bool false), gv ws0 1, gv ws0 2] h10) (
            asI .i64 (gv ws0 1) fun n11 =>
            asI .i64 (gv ws0 2) fun n12 =>
            out .normal [gv ws0 0, (.int .i64 (imax n11 n9)), (.int .i64 (add .i64 n12 1))] h10))))) (
    out (.exit 0) [gv ws0 0, gv ws0 1, gv ws0 2] h8)

noncomputable def f3 (rec : Rec) (k : Nat) (v0 : Value) (h0 : H) : Option (Value × H) :=
  calls rec h0 8 [v0] fun v1 h1 =>
  asB v1 fun q0 =>
  ifB (not q0) (
    calls rec h1 9 [] fun v2 h2 =>
    asB v2 fun q1 =>
    some ((.bool q1), h2)) (
    len v0 fun n0 =>
    ifB (lt 9 n0) (
      calls rec h1 9 [] fun v3 h3 =>
      asB v3 fun q2 =>
      some ((.bool q2), h3)) (
      calls rec h1 11 [v0] fun v4 h4 =>
      calls rec h4 10 [v4] fun v5 h5 =>
      ext v5 0 fun v6 =>
      ext v5 1 fun v7 =>
      asI .i64 v7 fun n1 =>
      calls rec h5 11 [v0] fun v8 h6 =>
      calls rec h6 12 [v8] fun v9 h7 =>
      ext v9 0 fun v10 =>
      asI .i64 v10 fun n2 =>
      ext v9 1 fun v11 =>
      asI .i64 v11 fun n3 =>
      ifB (not (eq n1 0)) (
        some ((.bool false), h7)) (
        ifB (not (eq n3 0)) (
          some ((.bool false), h7)) (
          len v6 fun n4 =>
          lp k (f3_l1 rec k v0 v6 n4) [(.bool false), (.int .i64 0), (.int .i64 0)] h7 fun e0 ws1 h11 =>
          onE e0 0 (
            asI .i64 (gv ws1 1) fun n13 =>
            ifB (eq n2 n13) (
              calls rec h11 9 [] fun v17 h12 =>
              asB v17 fun q3 =>
              some ((.bool q3), h12)) (
              some ((.bool false), h11))) (
            onR e0 (
              some (gv ws1 0, h11)))))))

theorem e3 (rec : Rec) (k : Nat) (v0 : Value) (h : H) : bodyT Tryd.prog E0 SC (XC Tryd.prog rec k) 3 (Value × H) [.opq v0] h (fun v h => some (v, h)) = f3 rec k v0 h := by kernel_rfl

theorem t3 {k : Nat} {v0 : Value} {h h1 : H} {v : Value} (hh : f3 rn k v0 h = some (v, h1)) : rn 3 #[v0] h = some (v, trunc Tryd.prog h h1 v) :=
  run_of_bodyT (args := [.opq v0]) rfl ((e3 _ _ _ _).trans hh)

theorem p3 {k : Nat} {v0 : Value} {h h1 : H} {v : Value} (hh : f3 rn k v0 h = some (v, h1)) (hp : plainO v = true) (x : Ext h h1) : rn 3 #[v0] h = some (v, h) := by rw [t3 hh, trunc_pure hp x]

theorem x3 {k : Nat} {v0 : Value} {h h1 : H} {v : Value} (hh : f3 rn k v0 h = some (v, h1)) (hp : plainO v = false) : ∃ h2, rn 3 #[v0] h = some (v, h2) ∧ Sm h1 h2 ∧ (Ext h h1 → Exw h h2) := trunc_cell hp (t3 hh)

noncomputable def f11 (rec : Rec) (_k : Nat) (v0 : Value) (h0 : H) : Option (Value × H) :=
  len v0 fun n0 =>
  sli Tryd.prog h0 23 v0 none (some (.int .i64 (imin n0 13))) none fun v1 =>
  calls rec h0 38 [v1] fun v2 h1 =>
  some (v2, h1)

theorem e11 (rec : Rec) (k : Nat) (v0 : Value) (h : H) : bodyT Tryd.prog E0 SC (XC Tryd.prog rec k) 11 (Value × H) [.opq v0] h (fun v h => some (v, h)) = f11 rec k v0 h := by kernel_rfl

theorem t11 {k : Nat} {v0 : Value} {h h1 : H} {v : Value} (hh : f11 rn k v0 h = some (v, h1)) : rn 11 #[v0] h = some (v, trunc Tryd.prog h h1 v) :=
  run_of_bodyT (args := [.opq v0]) rfl ((e11 _ _ _ _).trans hh)

theorem x11 {k : Nat} {v0 : Value} {h h1 : H} {v : Value} (hh : f11 rn k v0 h = some (v, h1)) (hp : plainO v = false) : ∃ h2, rn 11 #[v0] h = some (v, h2) ∧ Sm h1 h2 ∧ (Ext h h1 → Exw h h2) := trunc_cell hp (t11 hh)

noncomputable def f12 (rec : Rec) (_k : Nat) (v0 : Value) (h0 : H) : Option (Value × H) :=
  calls rec h0 39 [v0] fun v1 h1 =>
  ext v1 0 fun v2 =>
  ext v1 1 fun v3 =>
  asB v3 fun q0 =>
  ifB (not q0) (
    some ((.tuple #[(.int .i64 0), (.int .i64 2)]), h1)) (
    calls rec h1 40 [v2] fun v4 h2 =>
    asI .i64 v4 fun n0 =>
    some ((.tuple #[(.int .i64 n0), (.int .i64 0)]), h2))

theorem e12 (rec : Rec) (k : Nat) (v0 : Value) (h : H) : bodyT Tryd.prog E0 SC (XC Tryd.prog rec k) 12 (Value × H) [.opq v0] h (fun v h => some (v, h)) = f12 rec k v0 h := by kernel_rfl

theorem t12 {k : Nat} {v0 : Value} {h h1 : H} {v : Value} (hh : f12 rn k v0 h = some (v, h1)) : rn 12 #[v0] h = some (v, trunc Tryd.prog h h1 v) :=
  run_of_bodyT (args := [.opq v0]) rfl ((e12 _ _ _ _).trans hh)

theorem p12 {k : Nat} {v0 : Value} {h h1 : H} {v : Value} (hh : f12 rn k v0 h = some (v, h1)) (hp : plainO v = true) (x : Ext h h1) : rn 12 #[v0] h = some (v, h) := by rw [t12 hh, trunc_pure hp x]

noncomputable def f13_l2 (_rec : Rec) (_k : Nat) (n0 : Int) (n4 : Int) (n7 : Int) (ws1 : List Value) (h2 : H) : Option (Ex × List Value × H) :=
  asI .i64 (gv ws1 2) fun n8 =>
  ifB (lt n8 n7) (
    asK (gv ws1 2) fun n9 =>
    nn n9 (
      ifB (eq (and .i64 (shr .i64 n0 n9) 1) 1) (
        asK (gv ws1 2) fun n10 =>
        nn n10 (
          asK (gv ws1 1) fun n11 =>
          nn n11 (
            asI .i64 (gv ws1 0) fun n12 =>
            asI .i64 (gv ws1 1) fun n13 =>
            asI .i64 (gv ws1 2) fun n14 =>
            out .normal [(.int .i64 (or .i64 n12 (shl .i64 (and .i64 (shr .i64 n4 n10) 1) n11))), (.int .i64 (add .i64 n13 1)), (.int .i64 (add .i64 n14 1))] h2))) (
        asI .i64 (gv ws1 2) fun n15 =>
        out .normal [gv ws1 0, gv ws1 1, (.int .i64 (add .i64 n15 1))] h2))) (
    out (.exit 2) [gv ws1 0, gv ws1 1, gv ws1 2] h2)

noncomputable def f13_l1 (rec : Rec) (k : Nat) (v0 : Value) (n0 : Int) (n1 : Int) (ws0 : List Value) (h1 : H) : Option (Ex × List Value × H) :=
  asI .i64 (gv ws0 1) fun n2 =>
  ifB (lt n2 n1) (
    asK (gv ws0 1) fun n3 =>
    six v0 n3 1 fun b0 b1 =>
    ld Tryd.prog h1 3 b0 b1 fun v1 =>
    asI .i64 v1 fun n4 =>
    asK (gv ws0 1) fun n5 =>
    nn n5 (
      ifB (eq (and .i64 (shr .i64 n0 n5) 1) 0) (
        asI .i64 (gv ws0 1) fun n6 =>
        out .normal [gv ws0 0, (.int .i64 (add .i64 n6 1))] h1) (
        len v0 fun n7 =>
        lp k (f13_l2 rec k n0 n4 n7) [(.int .i64 0), (.int .i64 0), (.int .i64 0)] h1 fun e0 ws2 h3 =>
        onE e0 2 (
          bls Tryd.prog h3 23 1 [(0, gv ws2 0)] fun v2 h4 =>
          app Tryd.prog h4 23 23 (gv ws0 0) v2 fun v3 h5 =>
          asI .i64 (gv ws0 1) fun n16 =>
          out .normal [v3, (.int .i64 (add .i64 n16 1))] h5) (
          none)))) (
    out (.exit 0) [gv ws0 0, gv ws0 1] h1)

noncomputable def f13 (rec : Rec) (k : Nat) (v0 : Value) (n0 : Int) (h0 : H) : Option (Value × H) :=
  len v0 fun n1 =>
  lp k (f13_l1 rec k v0 n0 n1) [(.slice none 0 0), (.int .i64 0)] h0 fun e1 ws3 h6 =>
  onE e1 0 (
    some (gv ws3 0, h6)) (
    none)

theorem e13 (rec : Rec) (k : Nat) (v0 : Value) (n0 : Int) (h : H) : bodyT Tryd.prog E0 SC (XC Tryd.prog rec k) 13 (Value × H) [.opq v0, .int .i64 n0] h (fun v h => some (v, h)) = f13 rec k v0 n0 h := by kernel_rfl

theorem t13 {k : Nat} {v0 : Value} {n0 : Int} {h h1 : H} {v : Value} (hh : f13 rn k v0 n0 h = some (v, h1)) : rn 13 #[v0, .int .i64 n0] h = some (v, trunc Tryd.prog h h1 v) :=
  run_of_bodyT (args := [.opq v0, .int .i64 n0]) rfl ((e13 _ _ _ _ _).trans hh)

theorem x13 {k : Nat} {v0 : Value} {n0 : Int} {h h1 : H} {v : Value} (hh : f13 rn k v0 n0 h = some (v, h1)) (hp : plainO v = false) : ∃ h2, rn 13 #[v0, .int .i64 n0] h = some (v, h2) ∧ Sm h1 h2 ∧ (Ext h h1 → Exw h h2) := trunc_cell hp (t13 hh)

noncomputable def f39_l2 (_rec : Rec) (_k : Nat) (v0 : Value) (n0 : Int) (ws0 : List Value) (n4 : Int) (ws1 : List Value) (h2 : H) : Option (Ex × List Value × H) :=
  asI .i64 (gv ws1 2) fun n6 =>
  ifB (lt n6 n0) (
    asK (gv ws1 2) fun n7 =>
    nn n7 (
      asK (gv ws1 2) fun n8 =>
      six v0 n8 1 fun b2 b3 =>
      ld Tryd.prog h2 3 b2 b3 fun v2 =>
      asI .i64 v2 fun n9 =>
      asK (gv ws0 2) fun n10 =>
      nn n10 (
        ifB (not (eq (and .i64 (shr .i64 n4 n7) 1) (and .i64 (shr .i64 n9 n10) 1))) (
          out .ret [(.slice none 0 0), (.bool false), gv ws1 2] h2) (
          asI .i64 (gv ws1 2) fun n11 =>
          out .normal [gv ws1 0, gv ws1 1, (.int .i64 (add .i64 n11 1))] h2)))) (
    out (.exit 2) [gv ws1 0, gv ws1 1, gv ws1 2] h2)

noncomputable def f39_l1 (rec : Rec) (k : Nat) (v0 : Value) (n0 : Int) (n1 : Int) (ws0 : List Value) (h1 : H) : Option (Ex × List Value × H) :=
  asI .i64 (gv ws0 2) fun n2 =>
  ifB (lt n2 n1) (
    asK (gv ws0 2) fun n3 =>
    six v0 n3 1 fun b0 b1 =>
    ld Tryd.prog h1 3 b0 b1 fun v1 =>
    asI .i64 v1 fun n4 =>
    ifB (lt n4 0) (
      out .ret [(.slice none 0 0), (.bool false), gv ws0 2] h1) (
      nn n0 (
        ifB (le (shl .i64 1 n0) n4) (
          out .ret [(.slice none 0 0), (.bool false), gv ws0 2] h1) (
          asK (gv ws0 2) fun n5 =>
          nn n5 (
            ifB (eq (and .i64 (shr .i64 n4 n5) 1) 1) (
              out .ret [(.slice none 0 0), (.bool false), gv ws0 2] h1) (
              lp k (f39_l2 rec k v0 n0 ws0 n4) [gv ws0 0, gv ws0 1, (.int .i64 0)] h1 fun e0 ws2 h3 =>
              onE e0 2 (
                asI .i64 (gv ws0 2) fun n12 =>
                out .normal [gv ws2 0, gv ws2 1, (.int .i64 (add .i64 n12 1))] h3) (
                onR e0 (
                  out .ret [gv ws2 0, gv ws2 1, gv ws0 2] h3)))))))) (
    out (.exit 0) [gv ws0 0, gv ws0 1, gv ws0 2] h1)

noncomputable def f39 (rec : Rec) (k : Nat) (v0 : Value) (h0 : H) : Option (Value × H) :=
  len v0 fun n0 =>
  ifB (lt n0 1) (
    some ((.tuple #[(.slice none 0 0), (.bool false)]), h0)) (
    ifB (lt 9 n0) (
      some ((.tuple #[(.slice none 0 0), (.bool false)]), h0)) (
      len v0 fun n1 =>
      lp k (f39_l1 rec k v0 n0 n1) [(.slice none 0 0), (.bool false), (.int .i64 0)] h0 fun e1 ws3 h4 =>
      onE e1 0 (
        some ((.tuple #[v0, (.bool true)]), h4)) (
        onR e1 (
          some ((.tuple #[gv ws3 0, gv ws3 1]), h4)))))

theorem e39 (rec : Rec) (k : Nat) (v0 : Value) (h : H) : bodyT Tryd.prog E0 SC (XC Tryd.prog rec k) 39 (Value × H) [.opq v0] h (fun v h => some (v, h)) = f39 rec k v0 h := by kernel_rfl

theorem t39 {k : Nat} {v0 : Value} {h h1 : H} {v : Value} (hh : f39 rn k v0 h = some (v, h1)) : rn 39 #[v0] h = some (v, trunc Tryd.prog h h1 v) :=
  run_of_bodyT (args := [.opq v0]) rfl ((e39 _ _ _ _).trans hh)

theorem y39 {k : Nat} {v0 : Value} {h : H} {v : Value} (hh : f39 rn k v0 h = some (v, h)) : rn 39 #[v0] h = some (v, h) := by rw [t39 hh, trunc_self]

noncomputable def f40 (rec : Rec) (_k : Nat) (v0 : Value) (h0 : H) : Option (Value × H) :=
  calls rec h0 84 [v0] fun v1 h1 =>
  calls rec h1 85 [v0] fun v2 h2 =>
  asI .i64 v2 fun n0 =>
  six v1 n0 1 fun b0 b1 =>
  ld Tryd.prog h2 3 b0 b1 fun v3 =>
  asI .i64 v3 fun n1 =>
  some ((.int .i64 n1), h2)

theorem e40 (rec : Rec) (k : Nat) (v0 : Value) (h : H) : bodyT Tryd.prog E0 SC (XC Tryd.prog rec k) 40 (Value × H) [.opq v0] h (fun v h => some (v, h)) = f40 rec k v0 h := by kernel_rfl

theorem t40 {k : Nat} {v0 : Value} {h h1 : H} {v : Value} (hh : f40 rn k v0 h = some (v, h1)) : rn 40 #[v0] h = some (v, trunc Tryd.prog h h1 v) :=
  run_of_bodyT (args := [.opq v0]) rfl ((e40 _ _ _ _).trans hh)

theorem p40 {k : Nat} {v0 : Value} {h h1 : H} {v : Value} (hh : f40 rn k v0 h = some (v, h1)) (hp : plainO v = true) (x : Ext h h1) : rn 40 #[v0] h = some (v, h) := by rw [t40 hh, trunc_pure hp x]

noncomputable def f84_l2 (rec : Rec) (_k : Nat) (v0 : Value) (v1 : Value) (ws0 : List Value) (v2 : Value) (n5 : Int) (ws1 : List Value) (h5 : H) : Option (Ex × List Value × H) :=
  asI .i64 (gv ws1 0) fun n6 =>
  ifB (lt n6 n5) (
    asK (gv ws1 0) fun n7 =>
    six v2 n7 1 fun b2 b3 =>
    ld Tryd.prog h5 3 b2 b3 fun v3 =>
    asI .i64 v3 fun n8 =>
    asK (gv ws0 0) fun n9 =>
    six v1 n9 1 fun b4 b5 =>
    ld Tryd.prog h5 3 b4 b5 fun v4 =>
    asI .i64 v4 fun n10 =>
    nn n8 (
      asI .i64 (gv ws0 0) fun n11 =>
      six v1 (andNot .i64 n11 (shl .i64 1 n8)) 1 fun b6 b7 =>
      ld Tryd.prog h5 3 b6 b7 fun v5 =>
      asI .i64 v5 fun n12 =>
      nn n8 (
        asI .i64 (gv ws0 0) fun n13 =>
        calls rec h5 109 [v0, (.int .i64 n8), (.int .i64 (andNot .i64 n13 (shl .i64 1 n8)))] fun v6 h6 =>
        asI .i64 v6 fun n14 =>
        ck (freq b6 (nx h5) (same h6 h5)) (
          ck (freq b4 (nx h5) (same h6 h5)) (
            asK (gv ws0 0) fun n15 =>
            six v1 n15 1 fun b8 b9 =>
            st Tryd.prog h6 3 b8 b9 (.int .i64 (imin n10 (imax n12 n14))) fun h7 =>
            asI .i64 (gv ws1 0) fun n16 =>
            out .normal [(.int .i64 (add .i64 n16 1))] h7))))) (
    out (.exit 2) [gv ws1 0] h5)

noncomputable def f84_l1 (rec : Rec) (k : Nat) (v0 : Value) (v1 : Value) (ws0 : List Value) (h2 : H) : Option (Ex × List Value × H) :=
  len v1 fun n1 =>
  asI .i64 (gv ws0 0) fun n2 =>
  ifB (lt n2 n1) (
    len v0 fun n3 =>
    asK (gv ws0 0) fun n4 =>
    six v1 n4 1 fun b0 b1 =>
    st Tryd.prog h2 3 b0 b1 (.int .i64 n3) fun h3 =>
    calls rec h3 108 [gv ws0 0] fun v2 h4 =>
    len v2 fun n5 =>
    lp k (f84_l2 rec k v0 v1 ws0 v2 n5) [(.int .i64 0)] h4 fun e0 _ h8 =>
    onE e0 2 (
      asI .i64 (gv ws0 0) fun n17 =>
      out .normal [(.int .i64 (add .i64 n17 1))] h8) (
      none)) (
    out (.exit 0) [gv ws0 0] h2)

noncomputable def f84 (rec : Rec) (k : Nat) (v0 : Value) (h0 : H) : Option (Value × H) :=
  len v0 fun n0 =>
  nn n0 (
    mks Tryd.prog h0 22 (shl .i64 1 n0) (shl .i64 1 n0) fun v1 h1 =>
    lp k (f84_l1 rec k v0 v1) [(.int .i64 1)] h1 fun e1 _ h9 =>
    onE e1 0 (
      some (v1, h9)) (
      none))

theorem e84 (rec : Rec) (k : Nat) (v0 : Value) (h : H) : bodyT Tryd.prog E0 SC (XC Tryd.prog rec k) 84 (Value × H) [.opq v0] h (fun v h => some (v, h)) = f84 rec k v0 h := by kernel_rfl

theorem t84 {k : Nat} {v0 : Value} {h h1 : H} {v : Value} (hh : f84 rn k v0 h = some (v, h1)) : rn 84 #[v0] h = some (v, trunc Tryd.prog h h1 v) :=
  run_of_bodyT (args := [.opq v0]) rfl ((e84 _ _ _ _).trans hh)

theorem x84 {k : Nat} {v0 : Value} {h h1 : H} {v : Value} (hh : f84 rn k v0 h = some (v, h1)) (hp : plainO v = false) : ∃ h2, rn 84 #[v0] h = some (v, h2) ∧ Sm h1 h2 ∧ (Ext h h1 → Exw h h2) := trunc_cell hp (t84 hh)

noncomputable def f85 (_rec : Rec) (_k : Nat) (v0 : Value) (h0 : H) : Option (Value × H) :=
  len v0 fun n0 =>
  nn n0 (
    some ((.int .i64 (sub .i64 (shl .i64 1 n0) 1)), h0))

theorem e85 (rec : Rec) (k : Nat) (v0 : Value) (h : H) : bodyT Tryd.prog E0 SC (XC Tryd.prog rec k) 85 (Value × H) [.opq v0] h (fun v h => some (v, h)) = f85 rec k v0 h := by kernel_rfl

theorem t85 {k : Nat} {v0 : Value} {h h1 : H} {v : Value} (hh : f85 rn k v0 h = some (v, h1)) : rn 85 #[v0] h = some (v, trunc Tryd.prog h h1 v) :=
  run_of_bodyT (args := [.opq v0]) rfl ((e85 _ _ _ _).trans hh)

theorem p85 {k : Nat} {v0 : Value} {h h1 : H} {v : Value} (hh : f85 rn k v0 h = some (v, h1)) (hp : plainO v = true) (x : Ext h h1) : rn 85 #[v0] h = some (v, h) := by rw [t85 hh, trunc_pure hp x]

noncomputable def f108_l1 (rec : Rec) (_k : Nat)  (ws0 : List Value) (h1 : H) : Option (Ex × List Value × H) :=
  asI .i64 (gv ws0 1) fun n1 =>
  ifB (not (eq n1 0)) (
    asI .i64 (gv ws0 1) fun n2 =>
    calls rec h1 79 [(.int .u64 (wr .u64 n2))] fun v0 h2 =>
    asI .i64 v0 fun n3 =>
    bls Tryd.prog h2 22 1 [(0, (.int .i64 n3))] fun v1 h3 =>
    app Tryd.prog h3 22 22 (gv ws0 0) v1 fun v2 h4 =>
    asI .i64 (gv ws0 1) fun n4 =>
    asI .i64 (gv ws0 1) fun n5 =>
    out .normal [v2, (.int .i64 (and .i64 n5 (sub .i64 n4 1)))] h4) (
    out (.exit 0) [gv ws0 0, gv ws0 1] h1)

noncomputable def f108 (rec : Rec) (k : Nat) (n0 : Int) (h0 : H) : Option (Value × H) :=
  lp k (f108_l1 rec k) [(.slice none 0 0), (.int .i64 n0)] h0 fun e0 ws1 h5 =>
  onE e0 0 (
    some (gv ws1 0, h5)) (
    none)

theorem e108 (rec : Rec) (k : Nat) (n0 : Int) (h : H) : bodyT Tryd.prog E0 SC (XC Tryd.prog rec k) 108 (Value × H) [.int .i64 n0] h (fun v h => some (v, h)) = f108 rec k n0 h := by kernel_rfl

theorem t108 {k : Nat} {n0 : Int} {h h1 : H} {v : Value} (hh : f108 rn k n0 h = some (v, h1)) : rn 108 #[.int .i64 n0] h = some (v, trunc Tryd.prog h h1 v) :=
  run_of_bodyT (args := [.int .i64 n0]) rfl ((e108 _ _ _ _).trans hh)

theorem x108 {k : Nat} {n0 : Int} {h h1 : H} {v : Value} (hh : f108 rn k n0 h = some (v, h1)) (hp : plainO v = false) : ∃ h2, rn 108 #[.int .i64 n0] h = some (v, h2) ∧ Sm h1 h2 ∧ (Ext h h1 → Exw h h2) := trunc_cell hp (t108 hh)

noncomputable def f109 (rec : Rec) (_k : Nat) (v0 : Value) (n0 : Int) (n1 : Int) (h0 : H) : Option (Value × H) :=
  nn n0 (
    nn n0 (
      calls rec h0 119 [v0, (.int .i64 (shl .i64 1 n0)), (.int .i64 (or .i64 n1 (shl .i64 1 n0)))] fun v1 h1 =>
      asI .i64 v1 fun n2 =>
      calls rec h1 118 [v0, (.int .i64 n2)] fun v2 h2 =>
      asI .i64 v2 fun n3 =>
      nn n0 (
        calls rec h2 117 [(.int .i64 (andNot .i64 (andNot .i64 n3 n1) (shl .i64 1 n0)))] fun v3 h3 =>
        asI .i64 v3 fun n4 =>
        some ((.int .i64 n4), h3))))

theorem e109 (rec : Rec) (k : Nat) (v0 : Value) (n0 : Int) (n1 : Int) (h : H) : bodyT Tryd.prog E0 SC (XC Tryd.prog rec k) 109 (Value × H) [.opq v0, .int .i64 n0, .int .i64 n1] h (fun v h => some (v, h)) = f109 rec k v0 n0 n1 h := by kernel_rfl

theorem t109 {k : Nat} {v0 : Value} {n0 : Int} {n1 : Int} {h h1 : H} {v : Value} (hh : f109 rn k v0 n0 n1 h = some (v, h1)) : rn 109 #[v0, .int .i64 n0, .int .i64 n1] h = some (v, trunc Tryd.prog h h1 v) :=
  run_of_bodyT (args := [.opq v0, .int .i64 n0, .int .i64 n1]) rfl ((e109 _ _ _ _ _ _).trans hh)

theorem p109 {k : Nat} {v0 : Value} {n0 : Int} {n1 : Int} {h h1 : H} {v : Value} (hh : f109 rn k v0 n0 n1 h = some (v, h1)) (hp : plainO v = true) (x : Ext h h1) : rn 109 #[v0, .int .i64 n0, .int .i64 n1] h = some (v, h) := by rw [t109 hh, trunc_pure hp x]

noncomputable def f117 (rec : Rec) (_k : Nat) (n0 : Int) (h0 : H) : Option (Value × H) :=
  calls rec h0 64 [(.int .u64 (wr .u64 n0))] fun v0 h1 =>
  asI .i64 v0 fun n1 =>
  some ((.int .i64 n1), h1)

theorem e117 (rec : Rec) (k : Nat) (n0 : Int) (h : H) : bodyT Tryd.prog E0 SC (XC Tryd.prog rec k) 117 (Value × H) [.int .i64 n0] h (fun v h => some (v, h)) = f117 rec k n0 h := by kernel_rfl

theorem t117 {k : Nat} {n0 : Int} {h h1 : H} {v : Value} (hh : f117 rn k n0 h = some (v, h1)) : rn 117 #[.int .i64 n0] h = some (v, trunc Tryd.prog h h1 v) :=
  run_of_bodyT (args := [.int .i64 n0]) rfl ((e117 _ _ _ _).trans hh)

theorem p117 {k : Nat} {n0 : Int} {h h1 : H} {v : Value} (hh : f117 rn k n0 h = some (v, h1)) (hp : plainO v = true) (x : Ext h h1) : rn 117 #[.int .i64 n0] h = some (v, h) := by rw [t117 hh, trunc_pure hp x]

noncomputable def f118_l1 (_rec : Rec) (_k : Nat) (v0 : Value) (v1 : Value) (n1 : Int) (ws0 : List Value) (h2 : H) : Option (Ex × List Value × H) :=
  asI .i64 (gv ws0 1) fun n2 =>
  ifB (lt n2 n1) (
    asK (gv ws0 1) fun n3 =>
    six v1 n3 1 fun b0 b1 =>
    ld Tryd.prog h2 3 b0 b1 fun v2 =>
    asI .i64 v2 fun n4 =>
    six v0 n4 1 fun b2 b3 =>
    ld Tryd.prog h2 3 b2 b3 fun v3 =>
    asI .i64 v3 fun n5 =>
    asI .i64 (gv ws0 0) fun n6 =>
    asI .i64 (gv ws0 1) fun n7 =>
    out .normal [(.int .i64 (or .i64 n6 n5)), (.int .i64 (add .i64 n7 1))] h2) (
    out (.exit 0) [gv ws0 0, gv ws0 1] h2)

noncomputable def f118 (rec : Rec) (k : Nat) (v0 : Value) (n0 : Int) (h0 : H) : Option (Value × H) :=
  calls rec h0 108 [(.int .i64 n0)] fun v1 h1 =>
  len v1 fun n1 =>
  lp k (f118_l1 rec k v0 v1 n1) [(.int .i64 0), (.int .i64 0)] h1 fun e0 ws1 h3 =>
  onE e0 0 (
    some (gv ws1 0, h3)) (
    none)

theorem e118 (rec : Rec) (k : Nat) (v0 : Value) (n0 : Int) (h : H) : bodyT Tryd.prog E0 SC (XC Tryd.prog rec k) 118 (Value × H) [.opq v0, .int .i64 n0] h (fun v h => some (v, h)) = f118 rec k v0 n0 h := by kernel_rfl

theorem t118 {k : Nat} {v0 : Value} {n0 : Int} {h h1 : H} {v : Value} (hh : f118 rn k v0 n0 h = some (v, h1)) : rn 118 #[v0, .int .i64 n0] h = some (v, trunc Tryd.prog h h1 v) :=
  run_of_bodyT (args := [.opq v0, .int .i64 n0]) rfl ((e118 _ _ _ _ _).trans hh)

theorem p118 {k : Nat} {v0 : Value} {n0 : Int} {h h1 : H} {v : Value} (hh : f118 rn k v0 n0 h = some (v, h1)) (hp : plainO v = true) (x : Ext h h1) : rn 118 #[v0, .int .i64 n0] h = some (v, h) := by rw [t118 hh, trunc_pure hp x]

noncomputable def f119_l1 (rec : Rec) (_k : Nat) (v0 : Value) (n1 : Int) (ws0 : List Value) (h1 : H) : Option (Ex × List Value × H) :=
  calls rec h1 118 [v0, gv ws0 1] fun v1 h2 =>
  asI .i64 v1 fun n2 =>
  asI .i64 (gv ws0 1) fun n3 =>
  asI .i64 (gv ws0 1) fun n4 =>
  ifB (eq (or .i64 n3 (and .i64 n2 n1)) n4) (
    out .ret [gv ws0 1, gv ws0 1] h2) (
    out .normal [gv ws0 0, (.int .i64 (or .i64 n3 (and .i64 n2 n1)))] h2)

noncomputable def f119 (rec : Rec) (k : Nat) (v0 : Value) (n0 : Int) (n1 : Int) (h0 : H) : Option (Value × H) :=
  lp k (f119_l1 rec k v0 n1) [(.int .i64 0), (.int .i64 n0)] h0 fun e0 ws1 h3 =>
  onR e0 (
    some (gv ws1 0, h3))

theorem e119 (rec : Rec) (k : Nat) (v0 : Value) (n0 : Int) (n1 : Int) (h : H) : bodyT Tryd.prog E0 SC (XC Tryd.prog rec k) 119 (Value × H) [.opq v0, .int .i64 n0, .int .i64 n1] h (fun v h => some (v, h)) = f119 rec k v0 n0 n1 h := by kernel_rfl

theorem t119 {k : Nat} {v0 : Value} {n0 : Int} {n1 : Int} {h h1 : H} {v : Value} (hh : f119 rn k v0 n0 n1 h = some (v, h1)) : rn 119 #[v0, .int .i64 n0, .int .i64 n1] h = some (v, trunc Tryd.prog h h1 v) :=
  run_of_bodyT (args := [.opq v0, .int .i64 n0, .int .i64 n1]) rfl ((e119 _ _ _ _ _ _).trans hh)

theorem p119 {k : Nat} {v0 : Value} {n0 : Int} {n1 : Int} {h h1 : H} {v : Value} (hh : f119 rn k v0 n0 n1 h = some (v, h1)) (hp : plainO v = true) (x : Ext h h1) : rn 119 #[v0, .int .i64 n0, .int .i64 n1] h = some (v, h) := by rw [t119 hh, trunc_pure hp x]

end Go.AM

end

section

/- The staged forms of functions 16, 81, 42, 77, 76, 106, 107, 116, and what calls of these answer. -/
namespace Go.AM
open Go.Proofs
noncomputable def f16 (rec : Rec) (_k : Nat) (v0 : Value) (h0 : H) : Option (Value × H) :=
  calls rec h0 36 [v0] fun v1 h1 =>
  ext v1 0 fun v2 =>
  ext v1 1 fun v3 =>
  asB v3 fun q0 =>
  ifB (not q0) (
    some ((.tuple #[(.int .i64 0), (.int .i64 2)]), h1)) (
    calls rec h1 43 [v2] fun v4 h2 =>
    asI .i64 v4 fun n0 =>
    calls rec h2 42 [v2, (.int .i64 n0)] fun v5 h3 =>
    asI .i64 v5 fun n1 =>
    some ((.tuple #[(.int .i64 n1), (.int .i64 0)]), h3))

theorem e16 (rec : Rec) (k : Nat) (v0 : Value) (h : H) : bodyT Tryd.prog E0 SC (XC Tryd.prog rec k) 16 (Value × H) [.opq v0] h (fun v h => some (v, h)) = f16 rec k v0 h := by kernel_rfl

theorem t16 {k : Nat} {v0 : Value} {h h1 : H} {v : Value} (hh : f16 rn k v0 h = some (v, h1)) : rn 16 #[v0] h = some (v, trunc Tryd.prog h h1 v) :=
  run_of_bodyT (args := [.opq v0]) rfl ((e16 _ _ _ _).trans hh)

theorem p16 {k : Nat} {v0 : Value} {h h1 : H} {v : Value} (hh : f16 rn k v0 h = some (v, h1)) (hp : plainO v = true) (x : Ext h h1) : rn 16 #[v0] h = some (v, h) := by rw [t16 hh, trunc_pure hp x]

theorem x16 {k : Nat} {v0 : Value} {h h1 : H} {v : Value} (hh : f16 rn k v0 h = some (v, h1)) (hp : plainO v = false) : ∃ h2, rn 16 #[v0] h = some (v, h2) ∧ Sm h1 h2 ∧ (Ext h h1 → Exw h h2) := trunc_cell hp (t16 hh)

noncomputable def f42_l1 (rec : Rec) (_k : Nat) (v0 : Value) (n0 : Int) (v1 : Value) (n1 : Int) (ws0 : List Value) (h2 : H) : Option (Ex × List Value × H) :=
  asI .i64 (gv ws0 1) fun n2 =>
  ifB (lt n2 n1) (
    asK (gv ws0 1) fun n3 =>
    six v1 n3 1 fun b0 b1 =>
    ld Tryd.prog h2 3 b0 b1 fun v2 =>
    asI .i64 v2 fun n4 =>
    calls rec h2 72 [v0, (.int .i64 n4), (.int .i64 n0)] fun v3 h3 =>
    asI .i64 v3 fun n5 =>
    nn n4 (
      calls rec h3 44 [v0, (.int .i64 (andNot .i64 n5 (shl .i64 1 n4)))] fun v4 h4 =>
      asB v4 fun q0 =>
      ifB (not q0) (
        nn n4 (
          asI .i64 (gv ws0 0) fun n6 =>
          asI .i64 (gv ws0 1) fun n7 =>
          out .normal [(.int .i64 (or .i64 n6 (shl .i64 1 n4))), (.int .i64 (add .i64 n7 1))] h4)) (
        asI .i64 (gv ws0 1) fun n8 =>
        out .normal [gv ws0 0, (.int .i64 (add .i64 n8 1))] h4))) (
    out (.exit 0) [gv ws0 0, gv ws0 1] h2)

noncomputable def f42 (rec : Rec) (k : Nat) (v0 : Value) (n0 : Int) (h0 : H) : Option (Value × H) :=
  calls rec h0 54 [(.int .i64 n0)] fun v1 h1 =>
  len v1 fun n1 =>
  lp k (f42_l1 rec k v0 n0 v1 n1) [(.int .i64 0), (.int .i64 0)] h1 fun e0 ws1 h5 =>
  onE e0 0 (
    some (gv ws1 0, h5)) (
    none)

theorem e42 (rec : Rec) (k : Nat) (v0 : Value) (n0 : Int) (h : H) : bodyT Tryd.prog E0 SC (XC Tryd.prog rec k) 42 (Value × H) [.opq v0, .int .i64 n0] h (fun v h => some (v, h)) = f42 rec k v0 n0 h := by kernel_rfl

theorem t42 {k : Nat} {v0 : Value} {n0 : Int} {h h1 : H} {v : Value} (hh : f42 rn k v0 n0 h = some (v, h1)) : rn 42 #[v0, .int .i64 n0] h = some (v, trunc Tryd.prog h h1 v) :=
  run_of_bodyT (args := [.opq v0, .int .i64 n0]) rfl ((e42 _ _ _ _ _).trans hh)

theorem p42 {k : Nat} {v0 : Value} {n0 : Int} {h h1 : H} {v : Value} (hh : f42 rn k v0 n0 h = some (v, h1)) (hp : plainO v = true) (x : Ext h h1) : rn 42 #[v0, .int .i64 n0] h = some (v, h) := by rw [t42 hh, trunc_pure hp x]

end Go.AM

end

section

/- The staged forms of functions 17, and what calls of these answer. -/
namespace Go.AM
open Go.Proofs
noncomputable def f17_l2 (rec : Rec) (_k : Nat) (v2 : Value) (ws0 : List Value) (ws1 : List Value) (h3 : H) : Option (Ex × List Value × H) :=
  len v2 fun n3 =>
  asI .i64 (gv ws1 1) fun n4 =>
  ifB (lt n4 n3) (
    calls rec h3 43 [v2] fun v4 h4 =>
    asI .i64 v4 fun n5 =>
    calls rec h4 44 [v2, (.int .i64 n5)] fun v5 h5 =>
    asB v5 fun q1 =>
    ifB q1 (
      calls rec h5 43 [v2] fun v6 h6 =>
      asI .i64 v6 fun n6 =>
      asK (gv ws0 1) fun n7 =>
      nn n7 (
        asK (gv ws1 1) fun n8 =>
        nn n8 (
          calls rec h6 44 [v2, (.int .i64 (andNot .i64 (andNot .i64 n6 (shl .i64 1 n7)) (shl .i64 1 n8)))] fun v7 h7 =>
          asB v7 fun q2 =>
          ifB (not q2) (
            bld Tryd.prog 83 [(0, gv ws0 1), (1, gv ws1 1)] fun v8 =>
            bls Tryd.prog h7 33 1 [(0, v8)] fun v9 h8 =>
            app Tryd.prog h8 33 33 (gv ws1 0) v9 fun v10 h9 =>
            asI .i64 (gv ws1 1) fun n9 =>
            out .normal [v10, (.int .i64 (add .i64 n9 1))] h9) (
            asI .i64 (gv ws1 1) fun n10 =>
            out .normal [gv ws1 0, (.int .i64 (add .i64 n10 1))] h7)))) (
      asI .i64 (gv ws1 1) fun n11 =>
      out .normal [gv ws1 0, (.int .i64 (add .i64 n11 1))] h5)) (
    out (.exit 2) [gv ws1 0, gv ws1 1] h3)

noncomputable def f17_l1 (rec : Rec) (k : Nat) (v2 : Value) (n0 : Int) (ws0 : List Value) (h2 : H) : Option (Ex × List Value × H) :=
  asI .i64 (gv ws0 1) fun n1 =>
  ifB (lt n1 n0) (
    asI .i64 (gv ws0 1) fun n2 =>
    lp k (f17_l2 rec k v2 ws0) [gv ws0 0, (.int .i64 (add .i64 n2 1))] h2 fun e0 ws2 h10 =>
    onE e0 2 (
      asI .i64 (gv ws0 1) fun n12 =>
      out .normal [gv ws2 0, (.int .i64 (add .i64 n12 1))] h10) (
      none)) (
    out (.exit 0) [gv ws0 0, gv ws0 1] h2)

noncomputable def f17 (rec : Rec) (k : Nat) (v0 : Value) (h0 : H) : Option (Value × H) :=
  calls rec h0 36 [v0] fun v1 h1 =>
  ext v1 0 fun v2 =>
  ext v1 1 fun v3 =>
  asB v3 fun q0 =>
  ifB (not q0) (
    some ((.tuple #[(.slice none 0 0), (.int .i64 2)]), h1)) (
    len v2 fun n0 =>
    lp k (f17_l1 rec k v2 n0) [(.slice none 0 0), (.int .i64 0)] h1 fun e1 ws3 h11 =>
    onE e1 0 (
      some ((.tuple #[gv ws3 0, (.int .i64 0)]), h11)) (
      none))

theorem e17 (rec : Rec) (k : Nat) (v0 : Value) (h : H) : bodyT Tryd.prog E0 SC (XC Tryd.prog rec k) 17 (Value × H) [.opq v0] h (fun v h => some (v, h)) = f17 rec k v0 h := by kernel_rfl

theorem t17 {k : Nat} {v0 : Value} {h h1 : H} {v : Value} (hh : f17 rn k v0 h = some (v, h1)) : rn 17 #[v0] h = some (v, trunc Tryd.prog h h1 v) :=
  run_of_bodyT (args := [.opq v0]) rfl ((e17 _ _ _ _).trans hh)

theorem x17 {k : Nat} {v0 : Value} {h h1 : H} {v : Value} (hh : f17 rn k v0 h = some (v, h1)) (hp : plainO v = false) : ∃ h2, rn 17 #[v0] h = some (v, h2) ∧ Sm h1 h2 ∧ (Ext h h1 → Exw h h2) := trunc_cell hp (t17 hh)

end Go.AM

end

section

/- The staged forms of functions 8, 38, 36, 35, 43, 54, 72, 44, 31, 74, 68, 71, and what calls of these answer. -/
namespace Go.AM
open Go.Proofs
noncomputable def f8 (rec : Rec) (_k : Nat) (v0 : Value) (h0 : H) : Option (Value × H) :=
  calls rec h0 35 [v0, (.int .i64 10)] fun v1 h1 =>
  asB v1 fun q0 =>
  some ((.bool q0), h1)

theorem e8 (rec : Rec) (k : Nat) (v0 : Value) (h : H) : bodyT Tryd.prog E0 SC (XC Tryd.prog rec k) 8 (Value × H) [.opq v0] h (fun v h => some (v, h)) = f8 rec k v0 h := by kernel_rfl

theorem t8 {k : Nat} {v0 : Value} {h h1 : H} {v : Value} (hh : f8 rn k v0 h = some (v, h1)) : rn 8 #[v0] h = some (v, trunc Tryd.prog h h1 v) :=
  run_of_bodyT (args := [.opq v0]) rfl ((e8 _ _ _ _).trans hh)

theorem p8 {k : Nat} {v0 : Value} {h h1 : H} {v : Value} (hh : f8 rn k v0 h = some (v, h1)) (hp : plainO v = true) (x : Ext h h1) : rn 8 #[v0] h = some (v, h) := by rw [t8 hh, trunc_pure hp x]

theorem x8 {k : Nat} {v0 : Value} {h h1 : H} {v : Value} (hh : f8 rn k v0 h = some (v, h1)) (hp : plainO v = false) : ∃ h2, rn 8 #[v0] h = some (v, h2) ∧ Sm h1 h2 ∧ (Ext h h1 → Exw h h2) := trunc_cell hp (t8 hh)

noncomputable def f38 (_rec : Rec) (_k : Nat) (v0 : Value) (h0 : H) : Option (Value × H) :=
  eqv Tryd.prog 23 v0 (.slice none 0 0) fun q0 =>
  ifB q0 (
    some ((.slice none 0 0), h0)) (
    bls Tryd.prog h0 23 0 [] fun v1 h1 =>
    app Tryd.prog h1 23 23 v1 v0 fun v2 h2 =>
    some (v2, h2))

theorem e38 (rec : Rec) (k : Nat) (v0 : Value) (h : H) : bodyT Tryd.prog E0 SC (XC Tryd.prog rec k) 38 (Value × H) [.opq v0] h (fun v h => some (v, h)) = f38 rec k v0 h := by kernel_rfl

theorem t38 {k : Nat} {v0 : Value} {h h1 : H} {v : Value} (hh : f38 rn k v0 h = some (v, h1)) : rn 38 #[v0] h = some (v, trunc Tryd.prog h h1 v) :=
  run_of_bodyT (args := [.opq v0]) rfl ((e38 _ _ _ _).trans hh)

theorem x38 {k : Nat} {v0 : Value} {h h1 : H} {v : Value} (hh : f38 rn k v0 h = some (v, h1)) (hp : plainO v = false) : ∃ h2, rn 38 #[v0] h = some (v, h2) ∧ Sm h1 h2 ∧ (Ext h h1 → Exw h h2) := trunc_cell hp (t38 hh)

noncomputable def f36_l2 (_rec : Rec) (_k : Nat) (v0 : Value) (n0 : Int) (ws0 : List Value) (n4 : Int) (ws1 : List Value) (h2 : H) : Option (Ex × List Value × H) :=
  asI .i64 (gv ws1 2) fun n6 =>
  ifB (lt n6 n0) (
    asK (gv ws1 2) fun n7 =>
    nn n7 (
      asK (gv ws1 2) fun n8 =>
      six v0 n8 1 fun b2 b3 =>
      ld Tryd.prog h2 3 b2 b3 fun v2 =>
      asI .i64 v2 fun n9 =>
      asK (gv ws0 2) fun n10 =>
      nn n10 (
        ifB (not (eq (and .i64 (shr .i64 n4 n7) 1) (and .i64 (shr .i64 n9 n10) 1))) (
          out .ret [(.slice none 0 0), (.bool false), gv ws1 2] h2) (
          asI .i64 (gv ws1 2) fun n11 =>
          out .normal [gv ws1 0, gv ws1 1, (.int .i64 (add .i64 n11 1))] h2)))) (
    out (.exit 2) [gv ws1 0, gv ws1 1, gv ws1 2] h2)

noncomputable def f36_l1 (rec : Rec) (k : Nat) (v0 : Value) (n0 : Int) (n1 : Int) (ws0 : List Value) (h1 : H) : Option (Ex × List Value × H) :=
  asI .i64 (gv ws0 2) fun n2 =>
  ifB (lt n2 n1) (
    asK (gv ws0 2) fun n3 =>
    six v0 n3 1 fun b0 b1 =>
    ld Tryd.prog h1 3 b0 b1 fun v1 =>
    asI .i64 v1 fun n4 =>
    ifB (lt n4 0) (
      out .ret [(.slice none 0 0), (.bool false), gv ws0 2] h1) (
      nn n0 (
        ifB (le (shl .i64 1 n0) n4) (
          out .ret [(.slice none 0 0), (.bool false), gv ws0 2] h1) (
          asK (gv ws0 2) fun n5 =>
          nn n5 (
            ifB (eq (and .i64 (shr .i64 n4 n5) 1) 1) (
              out .ret [(.slice none 0 0), (.bool false), gv ws0 2] h1) (
              lp k (f36_l2 rec k v0 n0 ws0 n4) [gv ws0 0, gv ws0 1, (.int .i64 0)] h1 fun e0 ws2 h3 =>
              onE e0 2 (
                asI .i64 (gv ws0 2) fun n12 =>
                out .normal [gv ws2 0, gv ws2 1, (.int .i64 (add .i64 n12 1))] h3) (
                onR e0 (
                  out .ret [gv ws2 0, gv ws2 1, gv ws0 2] h3)))))))) (
    out (.exit 0) [gv ws0 0, gv ws0 1, gv ws0 2] h1)

noncomputable def f36 (rec : Rec) (k : Nat) (v0 : Value) (h0 : H) : Option (Value × H) :=
  len v0 fun n0 =>
  ifB (lt n0 1) (
    some ((.tuple #[(.slice none 0 0), (.bool false)]), h0)) (
    ifB (lt 10 n0) (
      some ((.tuple #[(.slice none 0 0), (.bool false)]), h0)) (
      len v0 fun n1 =>
      lp k (f36_l1 rec k v0 n0 n1) [(.slice none 0 0), (.bool false), (.int .i64 0)] h0 fun e1 ws3 h4 =>
      onE e1 0 (
        some ((.tuple #[v0, (.bool true)]), h4)) (
        onR e1 (
          some ((.tuple #[gv ws3 0, gv ws3 1]), h4)))))

theorem e36 (rec : Rec) (k : Nat) (v0 : Value) (h : H) : bodyT Tryd.prog E0 SC (XC Tryd.prog rec k) 36 (Value × H) [.opq v0] h (fun v h => some (v, h)) = f36 rec k v0 h := by kernel_rfl

theorem t36 {k : Nat} {v0 : Value} {h h1 : H} {v : Value} (hh : f36 rn k v0 h = some (v, h1)) : rn 36 #[v0] h = some (v, trunc Tryd.prog h h1 v) :=
  run_of_bodyT (args := [.opq v0]) rfl ((e36 _ _ _ _).trans hh)

theorem y36 {k : Nat} {v0 : Value} {h : H} {v : Value} (hh : f36 rn k v0 h = some (v, h)) : rn 36 #[v0] h = some (v, h) := by rw [t36 hh, trunc_self]

noncomputable def f35_l2 (_rec : Rec) (_k : Nat) (v0 : Value) (ws0 : List Value) (n4 : Int) (n8 : Int) (ws1 : List Value) (h2 : H) : Option (Ex × List Value × H) :=
  asI .i64 (gv ws1 1) fun n9 =>
  ifB (lt n9 n8) (
    asK (gv ws1 1) fun n10 =>
    nn n10 (
      asK (gv ws1 1) fun n11 =>
      six v0 n11 1 fun b2 b3 =>
      ld Tryd.prog h2 3 b2 b3 fun v2 =>
      asI .i64 v2 fun n12 =>
      asK (gv ws0 1) fun n13 =>
      nn n13 (
        ifB (not (eq (and .i64 (shr .i64 n4 n10) 1) (and .i64 (shr .i64 n12 n13) 1))) (
          out .ret [(.bool false), gv ws1 1] h2) (
          asI .i64 (gv ws1 1) fun n14 =>
          out .normal [gv ws1 0, (.int .i64 (add .i64 n14 1))] h2)))) (
    out (.exit 2) [gv ws1 0, gv ws1 1] h2)

noncomputable def f35_l1 (rec : Rec) (k : Nat) (v0 : Value) (n0 : Int) (n1 : Int) (ws0 : List Value) (h1 : H) : Option (Ex × List Value × H) :=
  asI .i64 (gv ws0 1) fun n2 =>
  ifB (lt n2 n1) (
    asK (gv ws0 1) fun n3 =>
    six v0 n3 1 fun b0 b1 =>
    ld Tryd.prog h1 3 b0 b1 fun v1 =>
    asI .i64 v1 fun n4 =>
    len v0 fun n5 =>
    ifB (lt n0 n5) (
      out .ret [(.bool false), gv ws0 1] h1) (
      ifB (lt n4 0) (
        out .ret [(.bool false), gv ws0 1] h1) (
        len v0 fun n6 =>
        nn n6 (
          ifB (le (shl .i64 1 n6) n4) (
            out .ret [(.bool false), gv ws0 1] h1) (
            asK (gv ws0 1) fun n7 =>
            nn n7 (
              ifB (eq (and .i64 (shr .i64 n4 n7) 1) 1) (
                out .ret [(.bool false), gv ws0 1] h1) (
                len v0 fun n8 =>
                lp k (f35_l2 rec k v0 ws0 n4 n8) [gv ws0 0, (.int .i64 0)] h1 fun e0 ws2 h3 =>
                onE e0 2 (
                  asI .i64 (gv ws0 1) fun n15 =>
                  out .normal [gv ws2 0, (.int .i64 (add .i64 n15 1))] h3) (
                  onR e0 (
                    out .ret [gv ws2 0, gv ws0 1] h3))))))))) (
    out (.exit 0) [gv ws0 0, gv ws0 1] h1)

noncomputable def f35 (rec : Rec) (k : Nat) (v0 : Value) (n0 : Int) (h0 : H) : Option (Value × H) :=
  len v0 fun n1 =>
  lp k (f35_l1 rec k v0 n0 n1) [(.bool false), (.int .i64 0)] h0 fun e1 ws3 h4 =>
  onE e1 0 (
    len v0 fun n16 =>
    ifB (le 1 n16) (
      len v0 fun n17 =>
      some ((.bool (le n17 n0)), h4)) (
      some ((.bool false), h4))) (
    onR e1 (
      some (gv ws3 0, h4)))

theorem e35 (rec : Rec) (k : Nat) (v0 : Value) (n0 : Int) (h : H) : bodyT Tryd.prog E0 SC (XC Tryd.prog rec k) 35 (Value × H) [.opq v0, .int .i64 n0] h (fun v h => some (v, h)) = f35 rec k v0 n0 h := by kernel_rfl

theorem t35 {k : Nat} {v0 : Value} {n0 : Int} {h h1 : H} {v : Value} (hh : f35 rn k v0 n0 h = some (v, h1)) : rn 35 #[v0, .int .i64 n0] h = some (v, trunc Tryd.prog h h1 v) :=
  run_of_bodyT (args := [.opq v0, .int .i64 n0]) rfl ((e35 _ _ _ _ _).trans hh)

theorem p35 {k : Nat} {v0 : Value} {n0 : Int} {h h1 : H} {v : Value} (hh : f35 rn k v0 n0 h = some (v, h1)) (hp : plainO v = true) (x : Ext h h1) : rn 35 #[v0, .int .i64 n0] h = some (v, h) := by rw [t35 hh, trunc_pure hp x]

noncomputable def f43 (_rec : Rec) (_k : Nat) (v0 : Value) (h0 : H) : Option (Value × H) :=
  len v0 fun n0 =>
  nn n0 (
    some ((.int .i64 (sub .i64 (shl .i64 1 n0) 1)), h0))

theorem e43 (rec : Rec) (k : Nat) (v0 : Value) (h : H) : bodyT Tryd.prog E0 SC (XC Tryd.prog rec k) 43 (Value × H) [.opq v0] h (fun v h => some (v, h)) = f43 rec k v0 h := by kernel_rfl

theorem t43 {k : Nat} {v0 : Value} {h h1 : H} {v : Value} (hh : f43 rn k v0 h = some (v, h1)) : rn 43 #[v0] h = some (v, trunc Tryd.prog h h1 v) :=
  run_of_bodyT (args := [.opq v0]) rfl ((e43 _ _ _ _).trans hh)

theorem p43 {k : Nat} {v0 : Value} {h h1 : H} {v : Value} (hh : f43 rn k v0 h = some (v, h1)) (hp : plainO v = true) (x : Ext h h1) : rn 43 #[v0] h = some (v, h) := by rw [t43 hh, trunc_pure hp x]

noncomputable def f54_l1 (rec : Rec) (_k : Nat)  (ws0 : List Value) (h1 : H) : Option (Ex × List Value × H) :=
  asI .i64 (gv ws0 1) fun n1 =>
  ifB (not (eq n1 0)) (
    asI .i64 (gv ws0 1) fun n2 =>
    calls rec h1 79 [(.int .u64 (wr .u64 n2))] fun v0 h2 =>
    asI .i64 v0 fun n3 =>
    bls Tryd.prog h2 22 1 [(0, (.int .i64 n3))] fun v1 h3 =>
    app Tryd.prog h3 22 22 (gv ws0 0) v1 fun v2 h4 =>
    asI .i64 (gv ws0 1) fun n4 =>
    asI .i64 (gv ws0 1) fun n5 =>
    out .normal [v2, (.int .i64 (and .i64 n5 (sub .i64 n4 1)))] h4) (
    out (.exit 0) [gv ws0 0, gv ws0 1] h1)

noncomputable def f54 (rec : Rec) (k : Nat) (n0 : Int) (h0 : H) : Option (Value × H) :=
  lp k (f54_l1 rec k) [(.slice none 0 0), (.int .i64 n0)] h0 fun e0 ws1 h5 =>
  onE e0 0 (
    some (gv ws1 0, h5)) (
    none)

theorem e54 (rec : Rec) (k : Nat) (n0 : Int) (h : H) : bodyT Tryd.prog E0 SC (XC Tryd.prog rec k) 54 (Value × H) [.int .i64 n0] h (fun v h => some (v, h)) = f54 rec k n0 h := by kernel_rfl

theorem t54 {k : Nat} {n0 : Int} {h h1 : H} {v : Value} (hh : f54 rn k n0 h = some (v, h1)) : rn 54 #[.int .i64 n0] h = some (v, trunc Tryd.prog h h1 v) :=
  run_of_bodyT (args := [.int .i64 n0]) rfl ((e54 _ _ _ _).trans hh)

theorem x54 {k : Nat} {n0 : Int} {h h1 : H} {v : Value} (hh : f54 rn k n0 h = some (v, h1)) (hp : plainO v = false) : ∃ h2, rn 54 #[.int .i64 n0] h = some (v, h2) ∧ Sm h1 h2 ∧ (Ext h h1 → Exw h h2) := trunc_cell hp (t54 hh)

noncomputable def f72_l2 (_rec : Rec) (_k : Nat) (v0 : Value) (n1 : Int) (v1 : Value) (n2 : Int) (ws1 : List Value) (h3 : H) : Option (Ex × List Value × H) :=
  asI .i64 (gv ws1 1) fun n3 =>
  ifB (lt n3 n2) (
    asK (gv ws1 1) fun n4 =>
    six v1 n4 1 fun b0 b1 =>
    ld Tryd.prog h3 3 b0 b1 fun v2 =>
    asI .i64 v2 fun n5 =>
    six v0 n5 1 fun b2 b3 =>
    ld Tryd.prog h3 3 b2 b3 fun v3 =>
    asI .i64 v3 fun n6 =>
    asI .i64 (gv ws1 0) fun n7 =>
    asI .i64 (gv ws1 1) fun n8 =>
    out .normal [(.int .i64 (or .i64 n7 (and .i64 n6 n1))), (.int .i64 (add .i64 n8 1))] h3) (
    out (.exit 2) [gv ws1 0, gv ws1 1] h3)

noncomputable def f72_l1 (rec : Rec) (k : Nat) (v0 : Value) (n1 : Int) (ws0 : List Value) (h1 : H) : Option (Ex × List Value × H) :=
  calls rec h1 54 [gv ws0 1] fun v1 h2 =>
  len v1 fun n2 =>
  lp k (f72_l2 rec k v0 n1 v1 n2) [gv ws0 1, (.int .i64 0)] h2 fun e0 ws2 h4 =>
  onE e0 2 (
    asI .i64 (gv ws2 0) fun n9 =>
    asI .i64 (gv ws0 1) fun n10 =>
    ifB (eq n9 n10) (
      out .ret [gv ws0 1, gv ws0 1] h4) (
      out .normal [gv ws0 0, gv ws2 0] h4)) (
    none)

noncomputable def f72 (rec : Rec) (k : Nat) (v0 : Value) (n0 : Int) (n1 : Int) (h0 : H) : Option (Value × H) :=
  nn n0 (
    lp k (f72_l1 rec k v0 n1) [(.int .i64 0), (.int .i64 (shl .i64 1 n0))] h0 fun e1 ws3 h5 =>
    onR e1 (
      some (gv ws3 0, h5)))

theorem e72 (rec : Rec) (k : Nat) (v0 : Value) (n0 : Int) (n1 : Int) (h : H) : bodyT Tryd.prog E0 SC (XC Tryd.prog rec k) 72 (Value × H) [.opq v0, .int .i64 n0, .int .i64 n1] h (fun v h => some (v, h)) = f72 rec k v0 n0 n1 h := by kernel_rfl

theorem t72 {k : Nat} {v0 : Value} {n0 : Int} {n1 : Int} {h h1 : H} {v : Value} (hh : f72 rn k v0 n0 n1 h = some (v, h1)) : rn 72 #[v0, .int .i64 n0, .int .i64 n1] h = some (v, trunc Tryd.prog h h1 v) :=
  run_of_bodyT (args := [.opq v0, .int .i64 n0, .int .i64 n1]) rfl ((e72 _ _ _ _ _ _).trans hh)

theorem p72 {k : Nat} {v0 : Value} {n0 : Int} {n1 : Int} {h h1 : H} {v : Value} (hh : f72 rn k v0 n0 n1 h = some (v, h1)) (hp : plainO v = true) (x : Ext h h1) : rn 72 #[v0, .int .i64 n0, .int .i64 n1] h = some (v, h) := by rw [t72 hh, trunc_pure hp x]

noncomputable def f44 (rec : Rec) (_k : Nat) (v0 : Value) (n0 : Int) (h0 : H) : Option (Value × H) :=
  ifB (eq n0 0) (
    some ((.bool true), h0)) (
    calls rec h0 79 [(.int .u64 (wr .u64 n0))] fun v1 h1 =>
    asI .i64 v1 fun n1 =>
    calls rec h1 72 [v0, (.int .i64 n1), (.int .i64 n0)] fun v2 h2 =>
    asI .i64 v2 fun n2 =>
    some ((.bool (eq n2 n0)), h2))

theorem e44 (rec : Rec) (k : Nat) (v0 : Value) (n0 : Int) (h : H) : bodyT Tryd.prog E0 SC (XC Tryd.prog rec k) 44 (Value × H) [.opq v0, .int .i64 n0] h (fun v h => some (v, h)) = f44 rec k v0 n0 h := by kernel_rfl

theorem t44 {k : Nat} {v0 : Value} {n0 : Int} {h h1 : H} {v : Value} (hh : f44 rn k v0 n0 h = some (v, h1)) : rn 44 #[v0, .int .i64 n0] h = some (v, trunc Tryd.prog h h1 v) :=
  run_of_bodyT (args := [.opq v0, .int .i64 n0]) rfl ((e44 _ _ _ _ _).trans hh)

theorem p44 {k : Nat} {v0 : Value} {n0 : Int} {h h1 : H} {v : Value} (hh : f44 rn k v0 n0 h = some (v, h1)) (hp : plainO v = true) (x : Ext h h1) : rn 44 #[v0, .int .i64 n0] h = some (v, h) := by rw [t44 hh, trunc_pure hp x]

end Go.AM

end

section

/- The staged forms of functions 79, 55, 64, 97, and what calls of these answer. -/
namespace Go.AM
open Go.Proofs
noncomputable def f79 (rec : Rec) (_k : Nat) (v0 : Value) (h0 : H) : Option (Value × H) :=
  calls rec h0 104 [v0] fun v1 h1 =>
  asI .i64 v1 fun n0 =>
  some ((.int .i64 n0), h1)

theorem e79 (rec : Rec) (k : Nat) (v0 : Value) (h : H) : bodyT Tryd.prog E0 SC (XC Tryd.prog rec k) 79 (Value × H) [.opq v0] h (fun v h => some (v, h)) = f79 rec k v0 h := by kernel_rfl

theorem t79 {k : Nat} {v0 : Value} {h h1 : H} {v : Value} (hh : f79 rn k v0 h = some (v, h1)) : rn 79 #[v0] h = some (v, trunc Tryd.prog h h1 v) :=
  run_of_bodyT (args := [.opq v0]) rfl ((e79 _ _ _ _).trans hh)

theorem p79 {k : Nat} {v0 : Value} {h h1 : H} {v : Value} (hh : f79 rn k v0 h = some (v, h1)) (hp : plainO v = true) (x : Ext h h1) : rn 79 #[v0] h = some (v, h) := by rw [t79 hh, trunc_pure hp x]

noncomputable def f55 (rec : Rec) (_k : Nat) (n0 : Int) (h0 : H) : Option (Value × H) :=
  calls rec h0 64 [(.int .u64 (wr .u64 n0))] fun v0 h1 =>
  asI .i64 v0 fun n1 =>
  some ((.int .i64 n1), h1)

theorem e55 (rec : Rec) (k : Nat) (n0 : Int) (h : H) : bodyT Tryd.prog E0 SC (XC Tryd.prog rec k) 55 (Value × H) [.int .i64 n0] h (fun v h => some (v, h)) = f55 rec k n0 h := by kernel_rfl

theorem t55 {k : Nat} {n0 : Int} {h h1 : H} {v : Value} (hh : f55 rn k n0 h = some (v, h1)) : rn 55 #[.int .i64 n0] h = some (v, trunc Tryd.prog h h1 v) :=
  run_of_bodyT (args := [.int .i64 n0]) rfl ((e55 _ _ _ _).trans hh)

theorem p55 {k : Nat} {n0 : Int} {h h1 : H} {v : Value} (hh : f55 rn k n0 h = some (v, h1)) (hp : plainO v = true) (x : Ext h h1) : rn 55 #[.int .i64 n0] h = some (v, h) := by rw [t55 hh, trunc_pure hp x]

noncomputable def f64 (rec : Rec) (_k : Nat) (v0 : Value) (h0 : H) : Option (Value × H) :=
  calls rec h0 97 [v0] fun v1 h1 =>
  asI .i64 v1 fun n0 =>
  some ((.int .i64 n0), h1)

theorem e64 (rec : Rec) (k : Nat) (v0 : Value) (h : H) : bodyT Tryd.prog E0 SC (XC Tryd.prog rec k) 64 (Value × H) [.opq v0] h (fun v h => some (v, h)) = f64 rec k v0 h := by kernel_rfl

theorem t64 {k : Nat} {v0 : Value} {h h1 : H} {v : Value} (hh : f64 rn k v0 h = some (v, h1)) : rn 64 #[v0] h = some (v, trunc Tryd.prog h h1 v) :=
  run_of_bodyT (args := [.opq v0]) rfl ((e64 _ _ _ _).trans hh)

theorem p64 {k : Nat} {v0 : Value} {h h1 : H} {v : Value} (hh : f64 rn k v0 h = some (v, h1)) (hp : plainO v = true) (x : Ext h h1) : rn 64 #[v0] h = some (v, h) := by rw [t64 hh, trunc_pure hp x]

noncomputable def f97 (_rec : Rec) (_k : Nat) (v0 : Value) (h0 : H) : Option (Value × H) :=
  asI .u64 v0 fun n0 =>
  nn 1 (
    asI .u64 v0 fun n1 =>
    nn 2 (
      nn 4 (
        nn 8 (
          nn 16 (
            nn 32 (
              some ((.int .i64 (and .i64 (wr .i64 (add .u64 (add .u64 (add .u64 (and .u64 (add .u64 (shr .u64 (add .u64 (and .u64 (shr .u64 (add .u64 (and .u64 (shr .u64 n0 1) 6148914691236517205) (and .u64 n1 6148914691236517205)) 2) 3689348814741910323) (and .u64 (add .u64 (and .u64 (shr .u64 n0 1) 6148914691236517205) (and .u64 n1 6148914691236517205)) 3689348814741910323)) 4) (add .u64 (and .u64 (shr .u64 (add .u64 (and .u64 (shr .u64 n0 1) 6148914691236517205) (and .u64 n1 6148914691236517205)) 2) 3689348814741910323) (and .u64 (add .u64 (and .u64 (shr .u64 n0 1) 6148914691236517205) (and .u64 n1 6148914691236517205)) 3689348814741910323))) 1085102592571150095) (shr .u64 (and .u64 (add .u64 (shr .u64 (add .u64 (and .u64 (shr .u64 (add .u64 (and .u64 (shr .u64 n0 1) 6148914691236517205) (and .u64 n1 6148914691236517205)) 2) 3689348814741910323) (and .u64 (add .u64 (and .u64 (shr .u64 n0 1) 6148914691236517205) (and .u64 n1 6148914691236517205)) 3689348814741910323)) 4) (add .u64 (and .u64 (shr .u64 (add .u64 (and .u64 (shr .u64 n0 1) 6148914691236517205) (and .u64 n1 6148914691236517205)) 2) 3689348814741910323) (and .u64 (add .u64 (and .u64 (shr .u64 n0 1) 6148914691236517205) (and .u64 n1 6148914691236517205)) 3689348814741910323))) 1085102592571150095) 8)) (shr .u64 (add .u64 (and .u64 (add .u64 (shr .u64 (add .u64 (and .u64 (shr .u64 (add .u64 (and .u64 (shr .u64 n0 1) 6148914691236517205) (and .u64 n1 6148914691236517205)) 2) 3689348814741910323) (and .u64 (add .u64 (and .u64 (shr .u64 n0 1) 6148914691236517205) (and .u64 n1 6148914691236517205)) 3689348814741910323)) 4) (add .u64 (and .u64 (shr .u64 (add .u64 (and .u64 (shr .u64 n0 1) 6148914691236517205) (and .u64 n1 6148914691236517205)) 2) 3689348814741910323) (and .u64 (add .u64 (and .u64 (shr .u64 n0 1) 6148914691236517205) (and .u64 n1 6148914691236517205)) 3689348814741910323))) 1085102592571150095) (shr .u64 (and .u64 (add .u64 (shr .u64 (add .u64 (and .u64 (shr .u64 (add .u64 (and .u64 (shr .u64 n0 1) 6148914691236517205) (and .u64 n1 6148914691236517205)) 2) 3689348814741910323) (and .u64 (add .u64 (and .u64 (shr .u64 n0 1) 6148914691236517205) (and .u64 n1 6148914691236517205)) 3689348814741910323)) 4) (add .u64 (and .u64 (shr .u64 (add .u64 (and .u64 (shr .u64 n0 1) 6148914691236517205) (and .u64 n1 6148914691236517205)) 2) 3689348814741910323) (and .u64 (add .u64 (and .u64 (shr .u64 n0 1) 6148914691236517205) (and .u64 n1 6148914691236517205)) 3689348814741910323))) 1085102592571150095) 8)) 16)) (shr .u64 (add .u64 (add .u64 (and .u64 (add .u64 (shr .u64 (add .u64 (and .u64 (shr .u64 (add .u64 (and .u64 (shr .u64 n0 1) 6148914691236517205) (and .u64 n1 6148914691236517205)) 2) 3689348814741910323) (and .u64 (add .u64 (and .u64 (shr .u64 n0 1) 6148914691236517205) (and .u64 n1 6148914691236517205)) 3689348814741910323)) 4) (add .u64 (and .u64 (shr .u64 (add .u64 (and .u64 (shr .u64 n0 1) 6148914691236517205) (and .u64 n1 6148914691236517205)) 2) 3689348814741910323) (and .u64 (add .u64 (and .u64 (shr .u64 n0 1) 6148914691236517205) (and .u64 n1 6148914691236517205)) 3689348814741910323))) 1085102592571150095) (shr .u64 (and .u64 (add .u64 (shr .u64 (add .u64 (and .u64 (shr .u64 (add .u64 (and .u64 (shr .u64 n0 1) 6148914691236517205) (and .u64 n1 6148914691236517205)) 2) 3689348814741910323) (and .u64 (add .u64 (and .u64 (shr .u64 n0 1) 6148914691236517205) (and .u64 n1 6148914691236517205)) 3689348814741910323)) 4) (add .u64 (and .u64 (shr .u64 (add .u64 (and .u64 (shr .u64 n0 1) 6148914691236517205) (and .u64 n1 6148914691236517205)) 2) 3689348814741910323) (and .u64 (add .u64 (and .u64 (shr .u64 n0 1) 6148914691236517205) (and .u64 n1 6148914691236517205)) 3689348814741910323))) 1085102592571150095) 8)) (shr .u64 (add .u64 (and .u64 (add .u64 (shr .u64 (add .u64 (and .u64 (shr .u64 (add .u64 (and .u64 (shr .u64 n0 1) 6148914691236517205) (and .u64 n1 6148914691236517205)) 2) 3689348814741910323) (and .u64 (add .u64 (and .u64 (shr .u64 n0 1) 6148914691236517205) (and .u64 n1 6148914691236517205)) 3689348814741910323)) 4) (add .u64 (and .u64 (shr .u64 (add .u64 (and .u64 (shr .u64 n0 1) 6148914691236517205) (and .u64 n1 6148914691236517205)) 2) 3689348814741910323) (and .u64 (add .u64 (and .u64 (shr .u64 n0 1) 6148914691236517205) (and .u64 n1 6148914691236517205)) 3689348814741910323))) 1085102592571150095) (shr .u64 (and .u64 (add .u64 (shr .u64 (add .u64 (and .u64 (shr .u64 (add .u64 (and .u64 (shr .u64 n0 1) 6148914691236517205) (and .u64 n1 6148914691236517205)) 2) 3689348814741910323) (and .u64 (add .u64 (and .u64 (shr .u64 n0 1) 6148914691236517205) (and .u64 n1 6148914691236517205)) 3689348814741910323)) 4) (add .u64 (and .u64 (shr .u64 (add .u64 (and .u64 (shr .u64 n0 1) 6148914691236517205) (and .u64 n1 6148914691236517205)) 2) 3689348814741910323) (and .u64 (add .u64 (and .u64 (shr .u64 n0 1) 6148914691236517205) (and .u64 n1 6148914691236517205)) 3689348814741910323))) 1085102592571150095) 8)) 16)) 32))) 127)), h0)))))))

theorem e97 (rec : Rec) (k : Nat) (v0 : Value) (h : H) : bodyT Tryd.prog E0 SC (XC Tryd.prog rec k) 97 (Value × H) [.opq v0] h (fun v h => some (v, h)) = f97 rec k v0 h := by kernel_rfl

theorem t97 {k : Nat} {v0 : Value} {h h1 : H} {v : Value} (hh : f97 rn k v0 h = some (v, h1)) : rn 97 #[v0] h = some (v, trunc Tryd.prog h h1 v) :=
  run_of_bodyT (args := [.opq v0]) rfl ((e97 _ _ _ _).trans hh)

theorem p97 {k : Nat} {v0 : Value} {h h1 : H} {v : Value} (hh : f97 rn k v0 h = some (v, h1)) (hp : plainO v = true) (x : Ext h h1) : rn 97 #[v0] h = some (v, h) := by rw [t97 hh, trunc_pure hp x]

end Go.AM

end

section

/- The lowest bit of a set; how many bits it has. -/
namespace Go.AM
open Go.Proofs
/-- The lowest number of a set below 1024. -/
def low (x : Nat) : Nat := ((List.range 10).find? fun i => x.testBit i).getD 0

/-- How many of the first ten numbers are in a set. -/
def pop (n : Nat) : Nat := (List.range 10).countP fun i => n.testBit i

theorem iso_any {P : Program} {E : Env} {n : Nat} {f : FuncId} {args : Array Value} {h h0 h1 : H} {v : Value} (hi : (E.iso f && args.toList.all plainV) = true) (hc : call P E (n + 1) f args h0 = some (v, h1)) : call P E (n + 1) f args h = some (v, h) := by
  unfold call at hc ⊢
  rw [if_pos hi] at hc ⊢
  cases hb : body P E (call P E n) (n + 1) f args (lone E) with
  | none => rw [hb] at hc; cases hc
  | some r =>
    obtain ⟨v', h'⟩ := r
    rw [hb] at hc
    simp only [Option.bind_some] at hc ⊢
    split at hc
    · rename_i hp
      rw [if_pos hp]
      cases hc
      rfl
    · cases hc

noncomputable def tzOk (x : Nat) : Bool := match call Tryd.prog E0 20 104 #[.int .u64 (x : Int)] ⟨fun _ => none, 0, 0⟩ with
  | some (.int .i64 z, _) => z == (low x : Int)
  | _ => false

theorem tz_all : ((List.range 1024).all fun x => decide (x = 0) || tzOk x) = true := by decide +kernel

noncomputable def cntF (n : Int) : Int := match f97 (fun _ _ _ => none) 0 (.int .u64 n) ⟨fun _ => none, 0, 0⟩ with
  | some (.int _ z, _) => z
  | _ => 0

theorem f97_eq (n : Int) (h : H) : f97 rn 0 (.int .u64 n) h = some (iv (cntF n), h) := by kernel_rfl

theorem cnt_all : ((List.range 1024).all fun n => decide (cntF (n : Int) = (pop n : Int))) = true := by decide +kernel

theorem s104 {x : Nat} (h0 : 0 < x) (h1 : x < 1024) (h : H) : rn 104 #[.int .u64 x] h = some (iv (low x), h) := by
  have := List.all_eq_true.1 tz_all x (List.mem_range.2 h1)
  rw [Bool.or_eq_true, decide_eq_true_iff] at this
  have ht : tzOk x = true := by
    rcases this with h2 | h2
    · omega
    · exact h2
  unfold tzOk at ht
  split at ht
  · rename_i z h' hc
    have hz : z = (low x : Int) := by simpa using ht
    subst hz
    exact run_iso (n := 19) (by rfl) (iso_any (by rfl) hc)
  · cases ht

theorem s79 {x : Nat} (h0 : 0 < x) (h1 : x < 1024) (h : H) : rn 79 #[.int .u64 x] h = some (iv (low x), h) := by
  refine p79 (k := 0) ?_ rfl (.refl _)
  unfold f79
  rw [calls_eq (xs := [.int .u64 x]) (s104 h0 h1 h), asI_int]

theorem s64 {x : Nat} (h1 : x < 1024) (h : H) : rn 64 #[.int .u64 x] h = some (iv (pop x), h) := by
  have hp : cntF x = (pop x : Int) := of_decide_eq_true (List.all_eq_true.1 cnt_all x (List.mem_range.2 h1))
  have e97 : rn 97 #[.int .u64 x] h = some (iv (pop x), h) := by
    rw [← hp]
    exact p97 (k := 0) (f97_eq x h) rfl (.refl _)
  refine p64 (k := 0) ?_ rfl (.refl _)
  unfold f64
  rw [calls_eq (xs := [.int .u64 x]) e97, asI_int]

end Go.AM

end

section

/- Graphs that are valid; copies of slices; it is awake. -/
namespace Go.AM
open Go.Proofs
variable {R : Type}
attribute [local simp] nx_eq nx_new nx_set blk_new blk_set asI_int asK_int asB_bool asP_ptr al_eq bx_eq len_slice onE_exit onE_ret onR_ret Value.cells d3 d22 d23 cell_new cell_set rd_new rd_set off eq lt le ifB gv out
abbrev cellsI (l : List Int) : List (List Value) := l.map fun z => [iv z]

theorem app22 : okApp Tryd.prog 22 3 1 = true := by kernel_rfl

theorem app23 : okApp Tryd.prog 23 3 1 = true := by kernel_rfl

theorem under22 : Tryd.prog.underlying 22 = some (.slice 3) := by kernel_rfl

theorem under23 : Tryd.prog.underlying 23 = some (.slice 3) := by kernel_rfl

theorem bls23e (h : H) : buildSlice Tryd.prog 23 0 [] h = some (.slice (some ⟨h.nx, 0, none⟩) 0 0, h.new (.row [] 3 true)) := by kernel_rfl

theorem bls22 (z : Int) (h : H) : buildSlice Tryd.prog 22 1 [(0, .int .i64 z)] h = some (.slice (some ⟨h.nx, 0, none⟩) 1 1, h.new (.row [iv z] 3 true)) := by kernel_rfl

theorem some22 (b o n c : Nat) : binOp Tryd.prog .eql 22 (.slice (some ⟨b, o, none⟩) n c) (.slice none 0 0) = some (.bool false) := by kernel_rfl

theorem nil23 : binOp Tryd.prog .eql 23 (.slice none 0 0) (.slice none 0 0) = some (.bool true) := by kernel_rfl

theorem some23 (b o n c : Nat) : binOp Tryd.prog .eql 23 (.slice (some ⟨b, o, none⟩) n c) (.slice none 0 0) = some (.bool false) := by kernel_rfl

/-- A copy: of a graph, of a slice of numbers, of a town. -/
theorem s38 {v : Value} {l : List (List Value)} {h : H} (hs : SlR h 3 1 v l) (hm : l.length < 2 ^ 30) : ∃ v' h', rn 38 #[v] h = some (v', h') ∧ Exw h h' ∧ SlR h' 3 1 v' l ∧ ∃ a n c, v' = .slice a n c := by
  have hs0 := hs
  have key : ∃ v' h', f38 rn 0 v h = some (v', h') ∧ Ext h h' ∧ SlR h' 3 1 v' l := by
    cases hs with
    | nil =>
      refine ⟨.slice none 0 0, h, ?_, .refl _, .nil⟩
      unfold f38 eqv
      rw [nil23]
      rfl
    | @at_ b o c cs own l hb hr hk hc hl hx =>
      unfold f38 eqv
      rw [some23]
      simp only []
      rw [show ifB false = fun (x y : Option (Value × H)) => y from rfl]
      simp only []
      rw [bls_some (bls23e h)]
      have x1 := Ext.new h (.row [] 3 true)
      obtain ⟨v', h', e, x, s⟩ := app_all (b := h.nx) app23 app23 (Nat.lt_succ_self _) (blk_new_self _ _) (hs0.ext x1) hm
      exact ⟨v', h', e _, x1.trans x, s⟩
  obtain ⟨v', h', e, x, s⟩ := key
  have hv : ∃ a n c, v' = .slice a n c := by cases s <;> exact ⟨_, _, _, rfl⟩
  obtain ⟨a, n, c, rfl⟩ := hv
  obtain ⟨h2, e2, m2, w2⟩ := x38 e rfl
  exact ⟨_, h2, e2, w2 x, s.ext m2.ext, a, n, c, rfl⟩

/-- Is a number in a set? -/
def bitI (x j : Int) : Int := AM.and .i64 (shr .i64 x j) 1

def rowOk (l : List Int) (i : Nat) (x : Int) : Bool :=
  !decide (x < 0) && !decide (AM.shl .i64 1 (l.length : Int) ≤ x) && !decide (bitI x i = 1) && (List.range l.length).all fun j => decide (bitI x j = bitI (l.getD j 0) i)

/-- Is a graph valid? -/
def validG (l : List Int) : Bool := decide (1 ≤ l.length) && decide (l.length ≤ 10) && (List.range l.length).all fun i => rowOk l i (l.getD i 0)

theorem validG_iff {l : List Int} (h : 1 ≤ l.length ∧ l.length ≤ 10) : validG l = true ↔ ∀ i x, l[i]? = some x → rowOk l i x = true := by
  unfold validG
  rw [decide_eq_true h.1, decide_eq_true h.2]
  simp only [Bool.true_and, List.all_eq_true, List.mem_range]
  constructor
  · intro hh i x hx
    have := hh i (List.getElem?_eq_some_iff.1 hx).1
    simpa [List.getD, hx] using this
  · intro hh i hi
    have := hh i _ (List.getElem?_eq_getElem hi)
    simpa [List.getD, List.getElem?_eq_getElem hi] using this

theorem getL {h : H} {v : Value} {l : List Int} (hs : SlR h 3 1 v (cellsI l)) {i : Nat} {x : Int} (hx : l[i]? = some x) (K : Value → Option R) : (six v (i : Int) 1 fun b o => (h.cell b o).bind K) = K (iv x) :=
  hs.c0 (by omega) (x := [iv x]) (by simp [hx]) rfl K

set_option maxHeartbeats 1000000 in
theorem s36 {v : Value} {l : List Int} {h : H} (hs : SlR h 3 1 v (cellsI l)) : rn 36 #[v] h = some (if validG l = true then .tuple #[v, .bool true] else .tuple #[.slice none 0 0, .bool false], h) := by
  have hn : ∀ {T : Type} (K : Int → Option T), len v K = K (l.length : Int) := fun K => by rw [hs.len]; simp
  by_cases hl : 1 ≤ l.length ∧ l.length ≤ 10
  · have hni : ∀ i : Nat, nn (i : Int) = fun (z : Option (Ex × List Value × H)) => z := fun i => by funext z; exact nn_ge (by omega) z
    have hb : ∀ a b : Int, AM.and .i64 (shr .i64 a b) 1 = bitI a b := fun _ _ => rfl
    have inner := fun (i : Nat) (x : Int) (_ : l[i]? = some x) => lp_all (F := f36_l2 rn 200010 v l.length [.slice none 0 0, .bool false, iv i] x) (k := 200010) (l := l) (h := h) (fun j => [.slice none 0 0, .bool false, iv j])
      (fun j y => decide (bitI x j = bitI y i)) (fun j => [.slice none 0 0, .bool false, iv j]) 2 [.slice none 0 0, .bool false, iv l.length] (ws := [.slice none 0 0, .bool false, iv 0]) rfl (by omega)
      (by simp [f36_l2])
      (by
        intro j y hy
        have hj := (List.getElem?_eq_some_iff.1 hy).1
        have hadd : add .i64 (j : Int) 1 = (j : Int) + 1 := add64 (by omega) (by omega)
        have e1 := fun (K : Value → Option (Ex × List Value × H)) => getL hs hy K
        by_cases hq : bitI x j = bitI y i
        · simp [f36_l2, hj, hni, e1, hb, hq, hadd]
        · simp [f36_l2, hj, hni, e1, hb, hq])
    have hlp := lp_all (F := f36_l1 rn 200010 v l.length l.length) (k := 200010) (l := l) (h := h) (fun i => [.slice none 0 0, .bool false, iv i])
      (fun i x => rowOk l i x) (fun i => [.slice none 0 0, .bool false, iv i]) 0 [.slice none 0 0, .bool false, iv l.length] (ws := [.slice none 0 0, .bool false, iv 0]) rfl (by omega)
      (by simp [f36_l1])
      (by
        intro i x hx
        have hi := (List.getElem?_eq_some_iff.1 hx).1
        have hadd : add .i64 (i : Int) 1 = (i : Int) + 1 := add64 (by omega) (by omega)
        have e1 := fun (K : Value → Option (Ex × List Value × H)) => getL hs hx K
        have hall : rowOk l i x = (!decide (x < 0) && !decide (AM.shl .i64 1 (l.length : Int) ≤ x) && !decide (bitI x i = 1) && (List.range l.length).all fun j => decide (bitI x j = bitI (l.getD j 0) i)) := rfl
        by_cases h1 : x < 0
        · have : rowOk l i x = false := by rw [hall, decide_eq_true h1]; rfl
          simp [f36_l1, hi, e1, h1, this]
        · by_cases h2 : AM.shl .i64 1 (l.length : Int) ≤ x
          · have : rowOk l i x = false := by rw [hall, decide_eq_true h2]; simp
            simp [f36_l1, hi, e1, h1, hni, h2, this]
          · by_cases h3 : bitI x i = 1
            · have : rowOk l i x = false := by rw [hall, decide_eq_true h3]; simp
              simp [f36_l1, hi, e1, h1, hni, h2, hb, h3, this]
            · rcases inner i x hx with ⟨j, y, hy, q2, _, q1⟩ | ⟨q2, q1⟩
              · have : rowOk l i x = false := by
                  have : ((List.range l.length).all fun j => decide (bitI x j = bitI (l.getD j 0) i)) = false := by
                    rw [List.all_eq_false]
                    refine ⟨j, List.mem_range.2 (List.getElem?_eq_some_iff.1 hy).1, ?_⟩
                    rw [show l.getD j 0 = y by simp [List.getD, hy], q2]; simp
                  rw [hall, this]; simp
                have hlq := fun (K : Ex → List Value → H → Option (Ex × List Value × H)) => lp_eq (K := K) q1
                simp [f36_l1, hi, e1, h1, hni, h2, hb, h3, this, hlq]
              · have : rowOk l i x = true := by
                  have : ((List.range l.length).all fun j => decide (bitI x j = bitI (l.getD j 0) i)) = true := by
                    rw [List.all_eq_true]
                    intro j hj
                    have hj := List.mem_range.1 hj
                    have := q2 j _ (List.getElem?_eq_getElem hj)
                    simpa [List.getD, List.getElem?_eq_getElem hj] using this
                  rw [hall, this, decide_eq_false h1, decide_eq_false h2, decide_eq_false h3]; rfl
                have hlq := fun (K : Ex → List Value → H → Option (Ex × List Value × H)) => lp_eq (K := K) q1
                simp [f36_l1, hi, e1, h1, hni, h2, hb, h3, this, hlq, hadd])
    have hle1 : ¬ (l.length : Int) < 1 := by omega
    have hle2 : ¬ (10 : Int) < (l.length : Int) := by omega
    rcases hlp with ⟨j, y, hy, q2, _, q1⟩ | ⟨q2, q1⟩
    · have hv : validG l = false := by
        rw [Bool.eq_false_iff]
        intro hc
        have := (validG_iff hl).1 hc j y hy
        rw [this] at q2
        cases q2
      rw [hv]
      exact y36 (k := 200010) (by simp [f36, hn, hle1, hle2, lp_eq q1])
    · have hv : validG l = true := (validG_iff hl).2 q2
      rw [hv, if_pos rfl]
      exact y36 (k := 200010) (by simp [f36, hn, hle1, hle2, lp_eq q1])
  · have hv : validG l = false := by
      unfold validG
      rw [Bool.eq_false_iff]
      intro hc
      simp only [Bool.and_eq_true, decide_eq_true_iff] at hc
      exact hl hc.1
    rw [hv]
    refine y36 (k := 0) ?_
    simp [f36, hn]
    omega

set_option maxHeartbeats 1000000 in
/-- The document's test. -/
theorem s35 {v : Value} {l : List Int} {h : H} (hs : SlR h 3 1 v (cellsI l)) : rn 35 #[v, iv 10] h = some (.bool (validG l), h) := by
  have hlen := hs.lt62
  rw [List.length_map] at hlen
  have hn : ∀ {T : Type} (K : Int → Option T), len v K = K (l.length : Int) := fun K => by rw [hs.len]; simp
  by_cases hl : 1 ≤ l.length ∧ l.length ≤ 10
  · have hni : ∀ i : Nat, nn (i : Int) = fun (z : Option (Ex × List Value × H)) => z := fun i => by funext z; exact nn_ge (by omega) z
    have hb : ∀ a b : Int, AM.and .i64 (shr .i64 a b) 1 = bitI a b := fun _ _ => rfl
    have hle2 : ¬ (10 : Int) < (l.length : Int) := by omega
    have inner := fun (i : Nat) (x : Int) (_ : l[i]? = some x) => lp_all (F := f35_l2 rn 200010 v [.bool false, iv i] x l.length) (k := 200010) (l := l) (h := h) (fun j => [.bool false, iv j])
      (fun j y => decide (bitI x j = bitI y i)) (fun j => [.bool false, iv j]) 2 [.bool false, iv l.length] (ws := [.bool false, iv 0]) rfl (by omega)
      (by simp [f35_l2])
      (by
        intro j y hy
        have hj := (List.getElem?_eq_some_iff.1 hy).1
        have hadd : add .i64 (j : Int) 1 = (j : Int) + 1 := add64 (by omega) (by omega)
        have e1 := fun (K : Value → Option (Ex × List Value × H)) => getL hs hy K
        by_cases hq : bitI x j = bitI y i
        · simp [f35_l2, hj, hni, e1, hb, hq, hadd]
        · simp [f35_l2, hj, hni, e1, hb, hq])
    have hlp := lp_all (F := f35_l1 rn 200010 v 10 l.length) (k := 200010) (l := l) (h := h) (fun i => [.bool false, iv i])
      (fun i x => rowOk l i x) (fun i => [.bool false, iv i]) 0 [.bool false, iv l.length] (ws := [.bool false, iv 0]) rfl (by omega)
      (by simp [f35_l1])
      (by
        intro i x hx
        have hi := (List.getElem?_eq_some_iff.1 hx).1
        have hadd : add .i64 (i : Int) 1 = (i : Int) + 1 := add64 (by omega) (by omega)
        have e1 := fun (K : Value → Option (Ex × List Value × H)) => getL hs hx K
        have hall : rowOk l i x = (!decide (x < 0) && !decide (AM.shl .i64 1 (l.length : Int) ≤ x) && !decide (bitI x i = 1) && (List.range l.length).all fun j => decide (bitI x j = bitI (l.getD j 0) i)) := rfl
        by_cases h1 : x < 0
        · have : rowOk l i x = false := by rw [hall, decide_eq_true h1]; rfl
          simp [f35_l1, hi, e1, hn, hle2, h1, this]
        · by_cases h2 : AM.shl .i64 1 (l.length : Int) ≤ x
          · have : rowOk l i x = false := by rw [hall, decide_eq_true h2]; simp
            simp [f35_l1, hi, e1, hn, hle2, h1, hni, h2, this]
          · by_cases h3 : bitI x i = 1
            · have : rowOk l i x = false := by rw [hall, decide_eq_true h3]; simp
              simp [f35_l1, hi, e1, hn, hle2, h1, hni, h2, hb, h3, this]
            · rcases inner i x hx with ⟨j, y, hy, q2, _, q1⟩ | ⟨q2, q1⟩
              · have : rowOk l i x = false := by
                  have : ((List.range l.length).all fun j => decide (bitI x j = bitI (l.getD j 0) i)) = false := by
                    rw [List.all_eq_false]
                    refine ⟨j, List.mem_range.2 (List.getElem?_eq_some_iff.1 hy).1, ?_⟩
                    rw [show l.getD j 0 = y by simp [List.getD, hy], q2]; simp
                  rw [hall, this]; simp
                have hlq := fun (K : Ex → List Value → H → Option (Ex × List Value × H)) => lp_eq (K := K) q1
                simp [f35_l1, hi, e1, hn, hle2, h1, hni, h2, hb, h3, this, hlq]
              · have : rowOk l i x = true := by
                  have : ((List.range l.length).all fun j => decide (bitI x j = bitI (l.getD j 0) i)) = true := by
                    rw [List.all_eq_true]
                    intro j hj
                    have hj := List.mem_range.1 hj
                    have := q2 j _ (List.getElem?_eq_getElem hj)
                    simpa [List.getD, List.getElem?_eq_getElem hj] using this
                  rw [hall, this, decide_eq_false h1, decide_eq_false h2, decide_eq_false h3]; rfl
                have hlq := fun (K : Ex → List Value → H → Option (Ex × List Value × H)) => lp_eq (K := K) q1
                simp [f35_l1, hi, e1, hn, hle2, h1, hni, h2, hb, h3, this, hlq, hadd])
    rcases hlp with ⟨j, y, hy, q2, _, q1⟩ | ⟨q2, q1⟩
    · have hv : validG l = false := by
        rw [Bool.eq_false_iff]
        intro hc
        have := (validG_iff hl).1 hc j y hy
        rw [this] at q2
        cases q2
      rw [hv]
      exact p35 (k := 200010) (by simp [f35, hn, lp_eq q1]) rfl (.refl _)
    · have hv : validG l = true := (validG_iff hl).2 q2
      rw [hv]
      exact p35 (k := 200010) (by simp [f35, hn, lp_eq q1, show (1 : Int) ≤ (l.length : Int) by omega, show (l.length : Int) ≤ 10 by omega]) rfl (.refl _)
  · have hv : validG l = false := by
      unfold validG
      rw [Bool.eq_false_iff]
      intro hc
      simp only [Bool.and_eq_true, decide_eq_true_iff] at hc
      exact hl hc.1
    rw [hv]
    cases l with
    | nil =>
      have q1 : lpGo (f35_l1 rn 1 v 10 0) 1 [.bool false, iv 0] h = some (.exit 0, [.bool false, iv 0], h) := lpGo_exit (by simp [f35_l1])
      exact p35 (k := 1) (by simp [f35, hn, lp_eq q1]) rfl (.refl _)
    | cons x l =>
      have hle2 : (10 : Int) < ((x :: l).length : Int) := by simp at hl ⊢; omega
      have hpos : 0 < (x :: l).length := by simp
      have e1 := fun (K : Value → Option (Ex × List Value × H)) => getL hs (i := 0) (x := x) rfl K
      generalize x :: l = l' at *
      have e1' : ∀ (K : Value → Option (Ex × List Value × H)), (six v 0 1 fun b o => (h.cell b o).bind K) = K (iv x) := e1
      have q1 : lpGo (f35_l1 rn 1 v 10 l'.length) 1 [.bool false, iv 0] h = some (.ret, [.bool false, iv 0], h) := lpGo_ret (by simp [f35_l1, hpos, e1', hn, hle2])
      exact p35 (k := 1) (by simp [f35, hn, lp_eq q1]) rfl (.refl _)

theorem s8 {v : Value} {l : List Int} {h : H} (hs : SlR h 3 1 v (cellsI l)) : rn 8 #[v] h = some (.bool (validG l), h) := by
  refine p8 (k := 0) ?_ rfl (.refl _)
  unfold f8
  rw [calls_eq (xs := [v, iv 10]) (s35 hs), asB_bool]

end Go.AM

end

section

/- Graphs of at most ten nodes, in plain words: sets as numbers, and what a node reaches within a set. -/
namespace Go.AM
/-! ### Sets as numbers -/
/-- The set of the numbers below n with a property. -/
def mkS (p : Nat → Bool) : Nat → Nat
  | 0 => 0
  | n + 1 => mkS p n ||| (if p n = true then 2 ^ n else 0)

theorem mkS_lt (p : Nat → Bool) : ∀ n, mkS p n < 2 ^ n := by
  intro n
  induction n with
  | zero => simp [mkS]
  | succ n ih =>
    simp only [mkS]
    have h1 : mkS p n < 2 ^ (n + 1) := Nat.lt_trans ih (Nat.pow_lt_pow_right (by omega) (by omega))
    refine Nat.or_lt_two_pow h1 ?_
    split
    · exact Nat.pow_lt_pow_right (by omega) (by omega)
    · exact Nat.two_pow_pos _

theorem mkS_bit (p : Nat → Bool) : ∀ n i, (mkS p n).testBit i = (decide (i < n) && p i) := by
  intro n
  induction n with
  | zero => intro i; simp [mkS]
  | succ n ih =>
    intro i
    simp only [mkS]
    rw [Nat.testBit_or, ih]
    by_cases hi : i = n
    · subst hi
      cases hp : p i <;> simp
    · have h1 : (if p n = true then 2 ^ n else 0).testBit i = false := by
        split
        · rw [Nat.testBit_two_pow]; simp; omega
        · simp
      rw [h1, Bool.or_false]
      have : decide (i < n) = decide (i < n + 1) := by rw [decide_eq_decide]; omega
      rw [this]

theorem big_bit {a n i : Nat} (ha : a < 2 ^ n) (hi : n ≤ i) : a.testBit i = false := Nat.testBit_lt_two_pow (Nat.lt_of_lt_of_le ha (Nat.pow_le_pow_right (by omega) hi))

theorem bit_lt {a n i : Nat} (ha : a < 2 ^ n) (h : a.testBit i = true) : i < n := by
  refine Classical.byContradiction fun hc => ?_
  rw [big_bit ha (by omega)] at h
  cases h

theorem set_ext {a b n : Nat} (ha : a < 2 ^ n) (hb : b < 2 ^ n) (h : ∀ i, i < n → a.testBit i = b.testBit i) : a = b := by
  apply Nat.eq_of_testBit_eq
  intro i
  by_cases hi : i < n
  · exact h i hi
  · rw [big_bit ha (by omega), big_bit hb (by omega)]

/-- The numbers of a set, rising. -/
def elts (s : Nat) : List Nat := (List.range 10).filter fun i => s.testBit i

theorem mem_elts {s i : Nat} (hs : s < 1024) : i ∈ elts s ↔ s.testBit i = true := by
  unfold elts
  rw [List.mem_filter, List.mem_range]
  exact ⟨And.right, fun h => ⟨bit_lt (n := 10) hs h, h⟩⟩

theorem elts_all : ((List.range 1024).all fun n => decide (n = 0) || (decide (elts n = low n :: elts (n &&& (n - 1))) && decide (n &&& (n - 1) < n))) = true := by decide +kernel

theorem elts_next {n : Nat} (h0 : 0 < n) (h : n < 1024) : elts n = low n :: elts (n &&& (n - 1)) ∧ n &&& (n - 1) < n := by
  have := List.all_eq_true.1 elts_all n (List.mem_range.2 h)
  simp only [Bool.or_eq_true, Bool.and_eq_true, decide_eq_true_iff] at this
  rcases this with h1 | h1
  · omega
  · exact h1

theorem elts_zero : elts 0 = [] := by decide

theorem low_bit {n : Nat} (h0 : 0 < n) (h : n < 1024) : n.testBit (low n) = true := by
  rw [← mem_elts h, (elts_next h0 h).1]
  exact List.mem_cons_self

theorem elts_len (n : Nat) : (elts n).length = pop n := by
  unfold elts pop
  rw [List.countP_eq_length_filter]

theorem elts_nodup (n : Nat) : (elts n).Nodup := by
  unfold elts
  exact List.Pairwise.filter _ List.nodup_range

/-- Fewer numbers in a smaller set. -/
theorem pop_lt {a b i : Nat} (hb : b < 1024) (h : ∀ j, a.testBit j = true → b.testBit j = true) (hi : b.testBit i = true) (ha : a.testBit i = false) : pop a < pop b := by
  have hi10 : i < 10 := bit_lt (n := 10) hb hi
  have key : ∀ n, i < n → ((List.range n).countP fun j => a.testBit j) < ((List.range n).countP fun j => b.testBit j) := by
    intro n
    induction n with
    | zero => intro h; omega
    | succ n ih =>
      intro hn
      rw [List.range_succ, List.countP_append, List.countP_append]
      have hle : ((List.range n).countP fun j => a.testBit j) ≤ ((List.range n).countP fun j => b.testBit j) := List.countP_mono_left fun j _ hj => h j hj
      by_cases hin : i = n
      · subst hin
        simp [hi, ha]
        omega
      · have := ih (by omega)
        have h2 : ([n].countP fun j => a.testBit j) ≤ ([n].countP fun j => b.testBit j) := List.countP_mono_left fun j _ hj => h j hj
        omega
  exact key 10 hi10

theorem pop_le_of {a b : Nat} (h : ∀ j, a.testBit j = true → b.testBit j = true) : pop a ≤ pop b := List.countP_mono_left fun j _ hj => h j hj

theorem pop_le_n {a n : Nat} (hn : n ≤ 10) (ha : a < 2 ^ n) : pop a ≤ n := by
  unfold pop
  rw [show 10 = n + (10 - n) by omega, List.range_add, List.countP_append]
  have h1 : ((List.range n).countP fun i => a.testBit i) ≤ n := Nat.le_trans List.countP_le_length (by simp)
  have h2 : (((List.range (10 - n)).map (n + ·)).countP fun i => a.testBit i) = 0 := by
    rw [List.countP_eq_zero]
    intro x hx
    obtain ⟨y, _, rfl⟩ := List.mem_map.1 hx
    rw [big_bit ha (by omega)]
    simp
  omega

/-! ### Graphs -/
/-- The neighbours of a node. -/
def nb (g : List Nat) (i : Nat) : Nat := g.getD i 0

def adj (g : List Nat) (a b : Nat) : Bool := (nb g a).testBit b

/-- Arrows between at most ten nodes. -/
structure GrB (g : List Nat) : Prop where
  len : g.length ≤ 10
  lt : ∀ x ∈ g, x < 2 ^ g.length

theorem GrB.nb_lt {g : List Nat} (hg : GrB g) (i : Nat) : nb g i < 2 ^ g.length := by
  unfold nb
  rw [List.getD_eq_getElem?_getD]
  cases h : g[i]? with
  | none => exact Nat.two_pow_pos _
  | some x => exact hg.lt x (List.mem_of_getElem? h)

theorem GrB.adj_lt {g : List Nat} (hg : GrB g) {a b : Nat} (h : adj g a b = true) : a < g.length ∧ b < g.length := by
  refine ⟨Classical.byContradiction fun hc => ?_, bit_lt (hg.nb_lt a) h⟩
  unfold adj nb at h
  rw [List.getD_eq_getElem?_getD, List.getElem?_eq_none (by omega)] at h
  simp at h

theorem GrB.pow {g : List Nat} (hg : GrB g) : 2 ^ g.length ≤ 1024 := Nat.pow_le_pow_right (n := 2) (by omega) hg.len

/-- What a node reaches within a set. -/
inductive Rch (g : List Nat) (W : Nat) (v : Nat) : Nat → Prop
  | base : Rch g W v v
  | step {a b : Nat} : Rch g W v a → adj g a b = true → W.testBit b = true → Rch g W v b

open Classical in
/-- The set of these. -/
noncomputable def rch (g : List Nat) (W v : Nat) : Nat := mkS (fun u => decide (Rch g W v u)) 10

theorem rch_lt (g : List Nat) (W v : Nat) : rch g W v < 1024 := mkS_lt _ 10

theorem Rch.bound {g : List Nat} {W v u : Nat} (hv : v < 10) (hW : W < 1024) (h : Rch g W v u) : u < 10 := by
  cases h with
  | base => exact hv
  | step _ _ hb => exact bit_lt (n := 10) hW hb

open Classical in
theorem rch_bit {g : List Nat} {W v u : Nat} (hv : v < 10) (hW : W < 1024) : (rch g W v).testBit u = true ↔ Rch g W v u := by
  unfold rch
  rw [mkS_bit, Bool.and_eq_true, decide_eq_true_iff, decide_eq_true_iff]
  exact ⟨And.right, fun h => ⟨h.bound hv hW, h⟩⟩

/-- A set that has the node, and of which all has been reached, and that is closed, is the set of all that is reached. -/
theorem rch_eq {g : List Nat} {W v S : Nat} (hv : v < 10) (hW : W < 1024) (hS : S < 1024) (h0 : S.testBit v = true) (h1 : ∀ u, S.testBit u = true → Rch g W v u) (h2 : ∀ a b, S.testBit a = true → adj g a b = true → W.testBit b = true → S.testBit b = true) : S = rch g W v := by
  refine set_ext (n := 10) hS (rch_lt g W v) fun i hi => ?_
  clear hi
  rw [Bool.eq_iff_iff, rch_bit hv hW]
  refine ⟨h1 i, fun h => ?_⟩
  induction h with
  | base => exact h0
  | step _ hab hb ih => exact h2 _ _ ih hab hb

theorem orAll {g : List Nat} {W u : Nat} : ∀ (L : List Nat) (s : Nat), (L.foldl (fun s i => s ||| (nb g i &&& W)) s).testBit u = true ↔ s.testBit u = true ∨ ∃ i ∈ L, adj g i u = true ∧ W.testBit u = true := by
  intro L
  induction L with
  | nil => intro s; simp
  | cons i L ih =>
    intro s
    rw [List.foldl_cons, ih, Nat.testBit_or, Nat.testBit_and, Bool.or_eq_true, Bool.and_eq_true]
    constructor
    · rintro ((h | h) | ⟨j, hj, h⟩)
      · exact .inl h
      · exact .inr ⟨i, List.mem_cons_self, h⟩
      · exact .inr ⟨j, List.mem_cons_of_mem _ hj, h⟩
    · rintro (h | ⟨j, hj, h⟩)
      · exact .inl (.inl h)
      · rcases List.mem_cons.1 hj with rfl | hj
        · exact .inl (.inr h)
        · exact .inr ⟨j, hj, h⟩

/-- One step of the search. -/
def grow (g : List Nat) (W S : Nat) : Nat := (elts S).foldl (fun s i => s ||| (nb g i &&& W)) S

theorem grow_bit {g : List Nat} {W S u : Nat} (hS : S < 1024) : (grow g W S).testBit u = true ↔ S.testBit u = true ∨ ∃ i, S.testBit i = true ∧ adj g i u = true ∧ W.testBit u = true := by
  unfold grow
  rw [orAll]
  simp only [mem_elts hS]

end Go.AM

end

section

/- The nodes of a set; what a node reaches; is a set connected? -/
namespace Go.AM
open Go.Proofs
variable {R : Type}
attribute [local simp] nx_eq nx_new nx_set blk_new blk_set asI_int asK_int asB_bool asP_ptr al_eq bx_eq len_slice onE_exit onE_ret onR_ret Value.cells d3 d22 d23 cell_new cell_set rd_new rd_set off eq lt le ifB gv out
/-- Numbers, as they stand in a row. -/
abbrev cellsN (l : List Nat) : List (List Value) := l.map fun (n : Nat) => [iv (n : Int)]

theorem cellsN_eq (l : List Nat) : cellsI (l.map Int.ofNat) = cellsN l := by rw [cellsI, List.map_map]; rfl

/-- A graph that is valid. -/
structure GrN (g : List Nat) : Prop extends GrB g where
  pos : 1 ≤ g.length
  irr : ∀ a, adj g a a = false
  sym : ∀ a b, adj g a b = adj g b a

theorem bitI_nat {a p : Nat} (ha : a < 2 ^ 63) (hp : p ≤ 64) : bitI a p = if a.testBit p then 1 else 0 := bit_nat ha hp

theorem valid_nat {l : List Int} (hv : validG l = true) : ∃ g : List Nat, l = g.map Int.ofNat ∧ GrN g := by
  have hl : 1 ≤ l.length ∧ l.length ≤ 10 := by
    unfold validG at hv
    simp only [Bool.and_eq_true, decide_eq_true_iff] at hv
    exact hv.1
  have hrow := (validG_iff hl).1 hv
  have hshl : AM.shl .i64 1 (l.length : Int) = ((2 ^ l.length : Nat) : Int) := shl1_nat (by omega)
  have hpow : 2 ^ l.length ≤ 1024 := Nat.pow_le_pow_right (n := 2) (by omega) hl.2
  have hb : ∀ (i : Nat) (x : Int), l[i]? = some x → 0 ≤ x ∧ x < (2 ^ l.length : Nat) ∧ bitI x i ≠ 1 ∧ ∀ (j : Nat) (y : Int), l[j]? = some y → bitI x j = bitI y i := by
    intro i x hx
    have := hrow i x hx
    unfold rowOk at this
    rw [hshl] at this
    simp only [Bool.and_eq_true, Bool.not_eq_true', decide_eq_false_iff_not, List.all_eq_true, List.mem_range, decide_eq_true_iff] at this
    refine ⟨by omega, by omega, this.1.2, fun j y hy => ?_⟩
    have h := this.2 j (List.getElem?_eq_some_iff.1 hy).1
    simpa [List.getD, hy] using h
  have hmap : l = (l.map Int.toNat).map Int.ofNat := by
    rw [List.map_map]
    symm
    conv => rhs; rw [← List.map_id l]
    refine List.map_congr_left fun x hx => ?_
    obtain ⟨i, hi, rfl⟩ := List.getElem_of_mem hx
    have := hb i _ (List.getElem?_eq_getElem hi)
    simp only [Function.comp_apply, id_eq]
    show ((l[i].toNat : Nat) : Int) = l[i]
    omega
  refine ⟨l.map Int.toNat, hmap, ⟨⟨by simpa using hl.2, fun x hx => ?_⟩, by simpa using hl.1, fun a => ?_, fun a b => ?_⟩⟩
  · obtain ⟨y, hy, rfl⟩ := List.mem_map.1 hx
    obtain ⟨i, hi, rfl⟩ := List.getElem_of_mem hy
    have := hb i _ (List.getElem?_eq_getElem hi)
    rw [List.length_map]
    omega
  all_goals
    have hnb : ∀ i, (∃ x : Nat, l[i]? = some (x : Int) ∧ nb (l.map Int.toNat) i = x ∧ x < 1024) ∨ (l[i]? = none ∧ nb (l.map Int.toNat) i = 0) := by
      intro i
      unfold nb
      rw [List.getD_eq_getElem?_getD, List.getElem?_map]
      cases hx : l[i]? with
      | none => exact .inr ⟨rfl, rfl⟩
      | some x =>
        have := hb i x hx
        exact .inl ⟨x.toNat, by simp; omega, rfl, by omega⟩
  · unfold adj
    rcases hnb a with ⟨x, h1, h2, h3⟩ | ⟨_, h2⟩
    · rw [h2]
      have := (hb a x h1).2.2.1
      rw [bitI_nat (by omega) (by have := (List.getElem?_eq_some_iff.1 h1).1; omega)] at this
      cases hq : x.testBit a with
      | false => rfl
      | true => rw [hq] at this; simp at this
    · rw [h2]; simp
  · unfold adj
    rcases hnb a with ⟨x, h1, h2, h3⟩ | ⟨h1, h2⟩
    · rcases hnb b with ⟨y, h4, h5, h6⟩ | ⟨h4, h5⟩
      · rw [h2, h5]
        have := (hb a x h1).2.2.2 b y h4
        rw [bitI_nat (by omega) (by have := (List.getElem?_eq_some_iff.1 h4).1; omega), bitI_nat (by omega) (by have := (List.getElem?_eq_some_iff.1 h1).1; omega)] at this
        cases hq : x.testBit b <;> cases hr : y.testBit a <;> simp [hq, hr] at this ⊢
      · rw [h5]
        have hbl : l.length ≤ b := by
          refine Classical.byContradiction fun hc => ?_
          rw [List.getElem?_eq_getElem (by omega)] at h4
          cases h4
        have hxl : x < 2 ^ l.length := by have := (hb a x h1).2.1; omega
        rw [h2, big_bit hxl hbl]; simp
    · rw [h2]
      have hal : l.length ≤ a := by
        refine Classical.byContradiction fun hc => ?_
        rw [List.getElem?_eq_getElem (by omega)] at h1
        cases h1
      rcases hnb b with ⟨y, h4, h5, h6⟩ | ⟨h4, h5⟩
      · have hyl : y < 2 ^ l.length := by have := (hb b y h4).2.1; omega
        rw [h5, big_bit hyl hal]; simp
      · rw [h5]; simp

theorem wr64u {n : Nat} (h : n < 1024) : wr .u64 (n : Int) = n := by
  unfold wr IntKind.wrap
  show (n : Int) % 2 ^ 64 = n
  omega

theorem getN {h : H} {v : Value} {g : List Nat} (hs : SlR h 3 1 v (cellsN g)) {i : Nat} (hi : i < g.length) (K : Value → Option R) : (six v (i : Int) 1 fun b o => (h.cell b o).bind K) = K (iv (nb g i : Nat)) := by
  have : g[i]? = some (nb g i) := by unfold nb; rw [List.getD_eq_getElem?_getD, List.getElem?_eq_getElem hi]; rfl
  exact hs.c0 (by omega) (x := [iv (nb g i : Nat)]) (by simp [this]) rfl K

/-- The nodes of a set. -/
theorem s54 {S : Nat} (hS : S < 1024) (h : H) : ∃ v' h', rn 54 #[iv S] h = some (v', h') ∧ Exw h h' ∧ SlR h' 3 1 v' (cellsN (elts S)) := by
  obtain ⟨e, ws', h', hl, rfl, xg, v, w, hap, rfl⟩ := lpGo_inv (F := f54_l1 rn 2000)
    (fun d ws g => Ext h g ∧ ∃ (v : Value) (x : Nat) (L : List Nat), ws = [v, iv x] ∧ d = x ∧ x < 1024 ∧ L ++ elts x = elts S ∧ AqR h.nx g 3 1 v (cellsN L))
    (fun e ws g => e = .exit 0 ∧ Ext h g ∧ ∃ v w, AqR h.nx g 3 1 v (cellsN (elts S)) ∧ ws = [v, w])
    (by
      rintro d ws g ⟨xg, v, x, L, rfl, rfl, hx, hL, hap⟩
      by_cases hx0 : d = 0
      · subst hx0
        rw [elts_zero, List.append_nil] at hL
        subst hL
        exact ⟨.exit 0, [v, iv 0], _, by simp [f54_l1], .inr ⟨by simp, rfl, xg, v, iv 0, hap, rfl⟩⟩
      · have h0 : 0 < d := Nat.pos_of_ne_zero hx0
        obtain ⟨h1, h2⟩ := elts_next h0 hx
        have c89 := fun (K : Value → H → Option (Ex × List Value × H)) => calls_eq (K := K) (xs := [.int .u64 d]) (s79 h0 hx g)
        have hsub : sub .i64 (d : Int) 1 = ((d - 1 : Nat) : Int) := by rw [sub64 (by omega) (by omega)]; omega
        have hand : AM.and .i64 (d : Int) ((d - 1 : Nat) : Int) = ((d &&& (d - 1) : Nat) : Int) := and_nat (by omega) (by omega)
        have hLl : L.length ≤ 10 := by
          have h3 := congrArg List.length hL
          rw [List.length_append, elts_len S] at h3
          have := pop_le_n (Nat.le_refl 10) hS
          omega
        obtain ⟨v', g2, e2, a2, n2, k2, b2, hb2, hb2'⟩ := hap.push app22 app22 (bls22 (low d : Int)) rfl rfl (by simp; omega) xg.nx
        have ee : ∀ (K : Value → H → Option (Ex × List Value × H)), (bls Tryd.prog g 22 1 [(0, iv (low d : Nat))] fun y h2 => app Tryd.prog h2 22 22 v y K) = K v' g2 := fun K => e2 K
        refine ⟨.normal, [v', iv (d &&& (d - 1) : Nat)], g2, ?_, .inl ⟨rfl, d &&& (d - 1), h2, ⟨by have := xg.nx; omega, fun b hb => ?_⟩, v', d &&& (d - 1), L ++ [low d], rfl, rfl, by omega, ?_, ?_⟩⟩
        · unfold f54_l1
          rw [show AM.gv [v, iv d] 1 = iv d from rfl, show AM.gv [v, iv d] 0 = v from rfl, asI_int, show AM.eq (d : Int) 0 = false by simp; omega, show (!false) = true from rfl, ifB_true, asI_int, wr64u hx, c89, asI_int, ee, asI_int, asI_int, hsub, hand]
          rfl
        · rw [k2 b (by have := xg.nx; omega) (fun e => by have := (hap.blkOf e).1; omega)]
          exact xg.blk b hb
        · rw [← hL, h1]; simp
        · have : cellsN (L ++ [low d]) = cellsN L ++ [[iv (low d : Int)]] := by simp
          rw [this]; exact a2)
    S 2000 (by omega) ⟨.refl _, .slice none 0 0, S, [], rfl, rfl, hS, rfl, .nil⟩
  obtain ⟨h2, e2, m2, w2⟩ := x54 (k := 2000) (n0 := S) (h := h) (h1 := h') (v := v) (by
    unfold f54
    exact (lp_eq hl).trans rfl) (by obtain ⟨x, y, z, hz⟩ := hap.isSl; rw [hz]; rfl)
  exact ⟨v, h2, e2, w2 xg, hap.slR.ext m2.ext⟩

/-- What a node reaches within a set. -/
theorem s72 {tv : Value} {g : List Nat} {W v : Nat} {h : H} (hg : GrB g) (hs : SlR h 3 1 tv (cellsN g)) (hv : v < g.length) (hW : W < 2 ^ g.length) : rn 72 #[tv, iv v, iv W] h = some (iv (rch g W v : Nat), h) := by
  have hlen := hg.len
  have hpow := hg.pow
  have hW' : W < 1024 := Nat.lt_of_lt_of_le hW hpow
  have hinner : ∀ (S : Nat) (nv : Value) (h2 : H), Ext h h2 → S < 2 ^ g.length → SlR h2 3 1 nv (cellsN (elts S)) →
      lpGo (f72_l2 rn 2000 tv W nv (elts S).length) 2000 [iv S, iv 0] h2 = some (.exit 2, [iv (grow g W S : Nat), iv (elts S).length], h2) := by
    intro S nv h2 x2 hS hn
    have hS' : S < 1024 := Nat.lt_of_lt_of_le hS hpow
    have hpl : (elts S).length ≤ 10 := by rw [elts_len]; exact pop_le_n (Nat.le_refl 10) hS'
    have hl := lp_same (σ := Nat) (ρ := Empty) (F := f72_l2 rn 2000 tv W nv (elts S).length) (k := 2000) (l := elts S) (h := h2) (fun i s => [iv s, iv i])
      (fun _ i s => .inl (s ||| (nb g i &&& W))) (fun _ s => s < 1024) (fun _ => .ret) (fun _ => []) 2 (fun s => [iv s, iv (elts S).length]) (ws := [iv S, iv 0]) (s0 := S) rfl hS' (by omega) (by simp)
      (fun _ _ => by simp [f72_l2])
      (by
        intro i x s hx hI
        have hi := (List.getElem?_eq_some_iff.1 hx).1
        have hxS := (mem_elts hS').1 (List.mem_of_getElem? hx)
        have hxl : x < g.length := bit_lt hS hxS
        have hnw : nb g x &&& W < 1024 := Nat.and_lt_two_pow (n := 10) _ hW'
        refine ⟨fun s' hs' => by cases hs'; exact Nat.or_lt_two_pow (n := 10) hI hnw, ?_⟩
        have e1 : ∀ (K : Value → Option (Ex × List Value × H)), (six nv (i : Int) 1 fun b o => (h2.cell b o).bind K) = K (iv x) := fun K => hn.c0 (by omega) (x := [iv x]) (by simp [hx]) rfl K
        have e2 := fun (K : Value → Option (Ex × List Value × H)) => getN (hs.ext x2) hxl K
        have hand : AM.and .i64 (nb g x : Int) (W : Int) = ((nb g x &&& W : Nat) : Int) := and_nat (by have := hg.nb_lt x; omega) (by omega)
        have hor : AM.or .i64 (s : Int) ((nb g x &&& W : Nat) : Int) = ((s ||| (nb g x &&& W) : Nat) : Int) := or_nat (by omega) (by omega)
        have hadd : add .i64 (i : Int) 1 = (i : Int) + 1 := add64 (by omega) (by omega)
        simp [f72_l2, hi, e1, e2, hand, hor, hadd, rnd])
    rw [itL_inl (fun _ i s => s ||| (nb g i &&& W)), foldI_foldl (fun i s => s ||| (nb g i &&& W))] at hl
    exact hl.1
  obtain ⟨e, ws', h', hl, rfl, xg, w, rfl⟩ := lpGo_inv (F := f72_l1 rn 2000 tv W)
    (fun d ws h2 => Ext h h2 ∧ ∃ S : Nat, ws = [iv 0, iv S] ∧ S < 2 ^ g.length ∧ d + pop S = 10 ∧ S.testBit v = true ∧ ∀ u, S.testBit u = true → Rch g W v u)
    (fun e ws h2 => e = .ret ∧ Ext h h2 ∧ ∃ w, ws = [iv (rch g W v : Nat), w])
    (by
      rintro d ws h2 ⟨x2, S, rfl, hS, hd, hSv, hSr⟩
      have hS' : S < 1024 := Nat.lt_of_lt_of_le hS hpow
      obtain ⟨nv, h3, e54, x3w, hn⟩ := s54 hS' h2
      have x3 := x3w.toExt
      have hl := hinner S nv h3 (x2.trans x3) hS hn
      have hnl : ∀ {T : Type} (K : Int → Option T), len nv K = K ((elts S).length : Int) := fun K => by rw [hn.len]; simp
      have start : f72_l1 rn 2000 tv W [iv 0, iv S] h2 = if grow g W S = S then some (.ret, [iv S, iv S], h3) else some (.normal, [iv 0, iv (grow g W S : Nat)], h3) := by
        unfold f72_l1
        rw [show AM.gv [iv 0, iv S] 1 = iv S from rfl, calls_eq (xs := [iv S]) e54, hnl]
        refine (lp_eq hl).trans ?_
        rw [onE_exit, if_pos rfl, show AM.gv [iv (grow g W S : Nat), iv (elts S).length] 0 = iv (grow g W S : Nat) from rfl, asI_int, asI_int]
        by_cases hq : grow g W S = S
        · rw [if_pos hq, hq, show AM.eq (S : Int) (S : Int) = true by simp, ifB_true]; rfl
        · rw [if_neg hq, show AM.eq (grow g W S : Int) (S : Int) = false by simp; omega, ifB_false]; rfl
      rw [start]
      by_cases hq : grow g W S = S
      · rw [if_pos hq]
        refine ⟨_, _, _, rfl, .inr ⟨by simp, rfl, x2.trans x3, iv S, ?_⟩⟩
        rw [rch_eq (g := g) (W := W) (v := v) (by omega) hW' hS' hSv hSr fun a b ha hab hb => by
          rw [← hq, grow_bit hS']
          exact .inr ⟨a, ha, hab, hb⟩]
      · rw [if_neg hq]
        have hsub : ∀ u, S.testBit u = true → (grow g W S).testBit u = true := fun u hu => (grow_bit hS').2 (.inl hu)
        have hglt : grow g W S < 2 ^ g.length := by
          have key : ∀ (L : List Nat) (s : Nat), s < 2 ^ g.length → L.foldl (fun s i => s ||| (nb g i &&& W)) s < 2 ^ g.length := by
            intro L
            induction L with
            | nil => intro s h; exact h
            | cons i L ih => intro s h; exact ih _ (Nat.or_lt_two_pow h (Nat.and_lt_two_pow _ hW))
          exact key _ _ hS
        obtain ⟨i, hi⟩ : ∃ i, (grow g W S).testBit i ≠ S.testBit i := by
          refine Classical.byContradiction fun hc => hq (Nat.eq_of_testBit_eq fun i => Classical.byContradiction fun h => hc ⟨i, h⟩)
        have hSi : S.testBit i = false := by
          cases hh : S.testBit i with
          | false => rfl
          | true => rw [hh, hsub i hh] at hi; exact absurd rfl hi
        have hGi : (grow g W S).testBit i = true := by
          cases hh : (grow g W S).testBit i with
          | true => rfl
          | false => rw [hh, hSi] at hi; exact absurd rfl hi
        have hp := pop_lt (Nat.lt_of_lt_of_le hglt hpow) hsub hGi hSi
        have hp2 := pop_le_n (Nat.le_refl 10) (Nat.lt_of_lt_of_le hglt hpow)
        refine ⟨_, _, _, rfl, .inl ⟨rfl, 10 - pop (grow g W S), by omega, x2.trans x3, grow g W S, rfl, hglt, by omega, hsub v hSv, fun u hu => ?_⟩⟩
        rcases (grow_bit hS').1 hu with h | ⟨a, ha, hab, hb⟩
        · exact hSr u h
        · exact .step (hSr a ha) hab hb)
    (10 - pop (2 ^ v)) 2000 (by omega) ⟨.refl _, 2 ^ v, rfl, Nat.pow_lt_pow_right (by omega) hv, by
      have := pop_le_n (Nat.le_refl 10) (show 2 ^ v < 2 ^ 10 from Nat.pow_lt_pow_right (by omega) (by omega))
      omega, by simp [Nat.testBit_two_pow], fun u hu => by
      rw [Nat.testBit_two_pow] at hu
      have : v = u := by simpa using hu
      subst this
      exact .base⟩
  refine p72 (k := 2000) (h1 := h') ?_ rfl xg
  unfold f72
  rw [nn_ge (by omega), shl1_nat (by omega)]
  refine (lp_eq hl).trans ?_
  rw [onR_ret]
  rfl

/-- All nodes. -/
def allN (g : List Nat) : Nat := 2 ^ g.length - 1

theorem allN_lt (g : List Nat) : allN g < 2 ^ g.length := by have := Nat.two_pow_pos g.length; unfold allN; omega

theorem allN_bit (g : List Nat) (i : Nat) : (allN g).testBit i = decide (i < g.length) := by unfold allN; rw [Nat.testBit_two_pow_sub_one]

theorem shl_all {n : Nat} (h : n ≤ 10) : sub .i64 (AM.shl .i64 1 (n : Int)) 1 = ((2 ^ n - 1 : Nat) : Int) := by
  have h1 : 2 ^ n ≤ 2 ^ 10 := Nat.pow_le_pow_right (by omega) h
  have h2 := Nat.two_pow_pos n
  rw [shl1_nat (by omega), sub64 (by omega) (by omega)]
  omega

theorem s43 {tv : Value} {g : List Nat} {h : H} (hg : GrB g) (hs : SlR h 3 1 tv (cellsN g)) : rn 43 #[tv] h = some (iv (allN g : Nat), h) := by
  have hn : ∀ {T : Type} (K : Int → Option T), len tv K = K (g.length : Int) := fun K => by rw [hs.len]; simp
  refine p43 (k := 0) ?_ rfl (.refl _)
  simp [f43, hn, nn_ge, shl_all hg.len, allN]

/-- Is a set connected, if it is not empty? -/
noncomputable def connS (g : List Nat) (S : Nat) : Bool := decide (S = 0) || decide (rch g S (low S) = S)

theorem low_lt {g : List Nat} {S : Nat} (hg : GrB g) (hS : S < 2 ^ g.length) (h0 : S ≠ 0) : low S < g.length := bit_lt hS (low_bit (Nat.pos_of_ne_zero h0) (Nat.lt_of_lt_of_le hS hg.pow))

theorem s44 {tv : Value} {g : List Nat} {S : Nat} {h : H} (hg : GrB g) (hs : SlR h 3 1 tv (cellsN g)) (hS : S < 2 ^ g.length) : rn 44 #[tv, iv S] h = some (.bool (connS g S), h) := by
  have hS' : S < 1024 := Nat.lt_of_lt_of_le hS hg.pow
  refine p44 (k := 0) ?_ rfl (.refl _)
  unfold f44 connS
  by_cases h0 : S = 0
  · subst h0; simp
  · have c89 := fun (K : Value → H → Option (Value × H)) => calls_eq (K := K) (xs := [.int .u64 S]) (s79 (Nat.pos_of_ne_zero h0) hS' h)
    have c78 := fun (K : Value → H → Option (Value × H)) => calls_eq (K := K) (xs := [tv, iv (low S : Nat), iv S]) (s72 hg hs (low_lt hg hS h0) hS)
    rw [show AM.eq (S : Int) 0 = false by simp; omega, ifB_false, wr64u hS', c89, asI_int, c78, asI_int]
    have : AM.eq (rch g S (low S) : Int) (S : Int) = decide (rch g S (low S) = S) := by
      rw [Bool.eq_iff_iff]; simp; omega
    rw [this, decide_eq_false h0]
    rfl

end Go.AM

end

section

/- Pairs that part a graph. -/
namespace Go.AM
open Go.Proofs
variable {R : Type}
attribute [local simp] nx_eq nx_new nx_set blk_new blk_set asI_int asK_int asB_bool asP_ptr al_eq bx_eq len_slice onE_exit onE_ret onR_ret Value.cells d3 d22 d23 d83 cell_new cell_set rd_new rd_set off eq lt le ifB gv out ext20 ext21
/-- Pairs of numbers, as they stand in a row. -/
abbrev cellsP (l : List (Nat × Nat)) : List (List Value) := l.map fun (q : Nat × Nat) => [iv (q.1 : Int), iv (q.2 : Int)]

theorem app33 : okApp Tryd.prog 33 83 2 = true := by kernel_rfl

theorem kbld83 (a b : Int) (K : Value → Option R) : bld Tryd.prog 83 [(0, .int .i64 a), (1, .int .i64 b)] K = K (.agg #[.int .i64 a, .int .i64 b]) := bld_some (by kernel_rfl)

theorem bls33 (a b : Int) (h : H) : buildSlice Tryd.prog 33 1 [(0, .agg #[.int .i64 a, .int .i64 b])] h = some (.slice (some ⟨h.nx, 0, none⟩) 1 1, h.new (.row [iv a, iv b] 83 true)) := by kernel_rfl

/-- A set without two numbers. -/
def del2 (S a b : Nat) : Nat := without (without S (2 ^ a)) (2 ^ b)

theorem del2_lt {S a b n : Nat} (h : S < 2 ^ n) : del2 S a b < 2 ^ n := without_le _ _ (without_le _ _ h)

/-- Does a pair part a graph? -/
noncomputable def partsP (g : List Nat) (a b : Nat) : Bool := connS g (allN g) && !connS g (del2 (allN g) a b)

noncomputable def pairIn (g : List Nat) (a j : Nat) (acc : List (Nat × Nat)) : List (Nat × Nat) := if partsP g a (a + 1 + j) = true then acc ++ [(a, a + 1 + j)] else acc

noncomputable def pairRow (g : List Nat) (a : Nat) (acc : List (Nat × Nat)) : List (Nat × Nat) := foldI (fun _ j acc => pairIn g a j acc) (List.range (g.length - 1 - a)) 0 acc

/-- All pairs that part a graph. -/
noncomputable def pairsP (g : List Nat) : List (Nat × Nat) := foldI (fun _ a acc => pairRow g a acc) (List.range g.length) 0 []

theorem foldI_len {α β : Type} {f : Nat → α → List β → List β} (hf : ∀ i x s, (f i x s).length ≤ s.length + 1) : ∀ (l : List α) (i : Nat) (s : List β), (foldI f l i s).length ≤ s.length + l.length := by
  intro l
  induction l with
  | nil => intro i s; simp [foldI]
  | cons x l ih =>
    intro i s
    have := ih (i + 1) (f i x s)
    have := hf i x s
    simp only [foldI, List.length_cons]
    omega

theorem pairIn_len (g : List Nat) (a j : Nat) (acc : List (Nat × Nat)) : (pairIn g a j acc).length ≤ acc.length + 1 := by
  unfold pairIn
  split <;> simp

theorem del_calc {g : List Nat} (hg : GrB g) {a b : Nat} (ha : a < g.length) (hb : b < g.length) :
    AM.andNot .i64 (AM.andNot .i64 (allN g : Int) (AM.shl .i64 1 (a : Int))) (AM.shl .i64 1 (b : Int)) = ((del2 (allN g) a b : Nat) : Int) := by
  have hlen := hg.len
  have h1 := allN_lt g
  have h2 := hg.pow
  have ha' : 2 ^ a < 2 ^ 10 := Nat.pow_lt_pow_right (by omega) (by omega)
  have hb' : 2 ^ b < 2 ^ 10 := Nat.pow_lt_pow_right (by omega) (by omega)
  have h3 : without (allN g) (2 ^ a) < 2 ^ 10 := without_le _ _ (by omega)
  rw [shl1_nat (by omega), shl1_nat (by omega), andNot_nat (by omega) (by omega), andNot_nat (by omega) (by omega)]
  rfl

/-- The program's loop over the second nodes. -/
theorem pair_loop {tv sv : Value} {g : List Nat} {h0 h : H} {a : Nat} {acc : List (Nat × Nat)} (hg : GrB g) (ha : a < g.length) (x0 : Ext h0 h) (hs : SlR h0 3 1 tv (cellsN g)) (hap : AqR h0.nx h 83 2 sv (cellsP acc)) (hacc : acc.length ≤ 200) (ws0 : List Value) (hw : AM.gv ws0 1 = iv a) :
    ∃ sv' w' h', lpGo (f17_l2 rn 200 tv ws0) 200 [sv, iv ((a : Int) + 1)] h = some (.exit 2, [sv', w'], h') ∧ Ext h0 h' ∧ AqR h0.nx h' 83 2 sv' (cellsP (pairRow g a acc)) := by
  have hlen := hg.len
  have hn : ∀ {T : Type} (K : Int → Option T), len tv K = K (g.length : Int) := fun K => by rw [hs.len]; simp
  have hwk : ∀ {T : Type} (K : Int → Option T), asK (AM.gv ws0 1) K = K a := fun K => by rw [hw]; rfl
  obtain ⟨ws', h', hl, xg, hll, sv', hap', rfl⟩ := lp_for (F := f17_l2 rn 200 tv ws0) (k := 200) (l := List.range (g.length - 1 - a)) (fun _ j acc => pairIn g a j acc)
    (fun i acc' ws h' => Ext h0 h' ∧ acc'.length ≤ acc.length + i ∧ ∃ sv, AqR h0.nx h' 83 2 sv (cellsP acc') ∧ ws = [sv, iv ((a + 1 + i : Nat) : Int)]) 2 (ws := [sv, iv ((a : Int) + 1)]) (h := h) (s0 := acc)
    ⟨x0, by omega, sv, hap, by simp⟩ (by simp; omega)
    (by
      rintro acc' ws h' ⟨_, _, sv, _, rfl⟩
      rw [List.length_range, show a + 1 + (g.length - 1 - a) = g.length by omega]
      simp [f17_l2, hn])
    (by
      rintro i x acc' ws h1 hx ⟨x1, hal, sv, hap1, rfl⟩
      obtain ⟨hi, rfl⟩ := range_get hx
      have hb : a + 1 + x < g.length := by omega
      have hs1 := hs.ext x1
      have hall := allN_lt g
      have c65 := fun (K : Value → H → Option (Ex × List Value × H)) => calls_eq (K := K) (xs := [tv]) (s43 hg hs1)
      have c64 := fun (K : Value → H → Option (Ex × List Value × H)) => calls_eq (K := K) (xs := [tv, iv (allN g : Nat)]) (s44 hg hs1 hall)
      have c64b := fun (K : Value → H → Option (Ex × List Value × H)) => calls_eq (K := K) (xs := [tv, iv (del2 (allN g) a (a + 1 + x) : Nat)]) (s44 hg hs1 (del2_lt hall))
      have hdel := del_calc hg ha hb
      have hadd : add .i64 ((a + 1 + x : Nat) : Int) 1 = ((a + 1 + (x + 1) : Nat) : Int) := by rw [add64 (by omega) (by omega)]; omega
      have hlt : AM.lt ((a + 1 + x : Nat) : Int) (g.length : Int) = true := by rw [AM.lt, decide_eq_true_iff]; omega
      have start : f17_l2 rn 200 tv ws0 [sv, iv ((a + 1 + x : Nat) : Int)] h1 = if partsP g a (a + 1 + x) = true then
          (bld Tryd.prog 83 [(0, iv a), (1, iv ((a + 1 + x : Nat) : Int))] fun v8 => bls Tryd.prog h1 33 1 [(0, v8)] fun v9 h8 => app Tryd.prog h8 33 33 sv v9 fun v10 h9 => AM.out .normal [v10, iv ((a + 1 + (x + 1) : Nat) : Int)] h9) else
          some (.normal, [sv, iv ((a + 1 + (x + 1) : Nat) : Int)], h1) := by
        unfold f17_l2
        rw [show AM.gv [sv, iv ((a + 1 + x : Nat) : Int)] 1 = iv ((a + 1 + x : Nat) : Int) from rfl, show AM.gv [sv, iv ((a + 1 + x : Nat) : Int)] 0 = sv from rfl]
        simp only [hn, asI_int, hlt, ifB_true, c65, c64, asB_bool, hwk, asK_int, nn_ge (show (0 : Int) ≤ (a : Int) by omega), nn_ge (show (0 : Int) ≤ ((a + 1 + x : Nat) : Int) by omega), hdel, c64b, hadd, hw]
        unfold partsP
        cases h5 : connS g (allN g) with
        | false => simp
        | true =>
          cases h6 : connS g (del2 (allN g) a (a + 1 + x)) with
          | true => simp
          | false => simp
      rw [start]
      by_cases hp : partsP g a (a + 1 + x) = true
      · rw [if_pos hp, kbld83]
        obtain ⟨sv', h2, e2, a2, n2, k2, b2, hb2, hb2'⟩ := hap1.push app33 app33 (bls33 (a : Int) ((a + 1 + x : Nat) : Int)) rfl rfl (by rw [List.length_map]; omega) x1.nx
        rw [e2]
        have hpi : pairIn g a x acc' = acc' ++ [(a, a + 1 + x)] := by unfold pairIn; rw [if_pos hp]
        refine ⟨_, _, rfl, ⟨by have := x1.nx; omega, fun b hb => ?_⟩, ?_, sv', ?_, rfl⟩
        · rw [k2 b (by have := x1.nx; omega) (fun e => by have := (hap1.blkOf e).1; omega)]
          exact x1.blk b hb
        · rw [hpi]; simp; omega
        · rw [hpi]
          have : cellsP (acc' ++ [(a, a + 1 + x)]) = cellsP acc' ++ [[iv (a : Int), iv ((a + 1 + x : Nat) : Int)]] := by simp
          rw [this]; exact a2
      · rw [if_neg hp]
        have hpi : pairIn g a x acc' = acc' := by unfold pairIn; rw [if_neg hp]
        exact ⟨_, _, rfl, x1, by rw [hpi]; omega, sv, by rw [hpi]; exact hap1, rfl⟩)
  exact ⟨sv', _, h', hl, xg, hap'⟩

theorem row_len {g : List Nat} {a : Nat} {acc : List (Nat × Nat)} : (pairRow g a acc).length ≤ acc.length + g.length := by
  have := foldI_len (f := fun (_ : Nat) (j : Nat) acc => pairIn g a j acc) (fun i x s => pairIn_len g a x s) (List.range (g.length - 1 - a)) 0 acc
  unfold pairRow
  rw [List.length_range] at this
  omega

theorem s17 {v : Value} {g : List Nat} {h : H} (hg : GrN g) (hval : validG (g.map Int.ofNat) = true) (hs : SlR h 3 1 v (cellsN g)) :
    ∃ v' h', rn 17 #[v] h = some (.tuple #[v', iv 0], h') ∧ Exw h h' ∧ SlR h' 83 2 v' (cellsP (pairsP g)) := by
  have hlen := hg.len
  have c63 := fun (K : Value → H → Option (Value × H)) => calls_eq (K := K) (xs := [v]) (s36 (l := g.map Int.ofNat) (h := h) (by rw [cellsN_eq]; exact hs))
  rw [if_pos hval] at c63
  have hn : ∀ {T : Type} (K : Int → Option T), len v K = K (g.length : Int) := fun K => by rw [hs.len]; simp
  obtain ⟨ws', h', hl, xg, hll, sv', hap', rfl⟩ := lp_for (F := f17_l1 rn 200 v g.length) (k := 200) (l := List.range g.length) (fun _ a acc => pairRow g a acc)
    (fun i acc' ws h' => Ext h h' ∧ acc'.length ≤ 10 * i ∧ ∃ sv, AqR h.nx h' 83 2 sv (cellsP acc') ∧ ws = [sv, iv i]) 0 (ws := [.slice none 0 0, iv 0]) (h := h) (s0 := [])
    ⟨.refl _, by simp, _, .nil, rfl⟩ (by simp; omega)
    (by
      rintro acc' ws h' ⟨_, _, sv, _, rfl⟩
      rw [List.length_range]
      simp [f17_l1])
    (by
      rintro i x acc' ws h1 hx ⟨x1, hal, sv, hap1, rfl⟩
      obtain ⟨hi, rfl⟩ := range_get hx
      have hadd : add .i64 (x : Int) 1 = (x : Int) + 1 := add64 (by omega) (by omega)
      obtain ⟨sv', w', h2, hl2, x2, hap2⟩ := pair_loop hg.toGrB hi x1 hs hap1 (by omega) [sv, iv x] rfl
      have hrl := row_len (g := g) (a := x) (acc := acc')
      refine ⟨[sv', iv ((x : Int) + 1)], h2, ?_, x2, by omega, sv', hap2, rfl⟩
      have hlq := fun (K : Ex → List Value → H → Option (Ex × List Value × H)) => lp_eq (K := K) hl2
      simp [f17_l1, hi, hadd, hlq])
  obtain ⟨h2, e2, m2, w2⟩ := x17 (k := 200) (v0 := v) (h := h) (h1 := h') (v := .tuple #[sv', iv 0]) (by
    unfold f17
    rw [c63, ext20, ext21, asB_bool, show (!true) = false from rfl, ifB_false, hn]
    refine (lp_eq hl).trans ?_
    rfl) (by obtain ⟨x, y, z, hz⟩ := hap'.isSl; rw [hz]; rfl)
  exact ⟨sv', h2, e2, w2 xg, hap'.slR.ext m2.ext⟩

theorem all_ne {g : List Nat} (hg : GrN g) : allN g ≠ 0 := by
  have h := hg.pos
  have : 2 ^ 1 ≤ 2 ^ g.length := Nat.pow_le_pow_right (by omega) h
  unfold allN
  omega

end Go.AM

end

section

/- Edges, cut nodes, and a town without an edge. -/
namespace Go.AM
open Go.Proofs
variable {R : Type}
attribute [local simp] nx_eq nx_new nx_set blk_new blk_set asI_int asK_int asB_bool asP_ptr al_eq bx_eq len_slice onE_exit onE_ret onR_ret Value.cells d3 d22 d23 d83 cell_new cell_set rd_new rd_set off eq lt le ifB gv out ext20 ext21
/-- A loop that appends is the same as a filter. -/
theorem foldI_filter {α β : Type} {p : α → Bool} {f : α → β} : ∀ (l : List α) (i : Nat) (s : List β), foldI (fun _ x acc => if p x = true then acc ++ [f x] else acc) l i s = s ++ (l.filter p).map f := by
  intro l
  induction l with
  | nil => intro i s; simp [foldI]
  | cons x l ih =>
    intro i s
    simp only [foldI]
    rw [ih]
    cases hp : p x <;> simp [List.filter_cons, hp]

end Go.AM

end

section

/- Cut nodes; a town without an edge. -/
namespace Go.AM
open Go.Proofs
variable {R : Type}
attribute [local simp] nx_eq nx_new nx_set blk_new blk_set asI_int asK_int asB_bool asP_ptr al_eq bx_eq len_slice onE_exit onE_ret onR_ret Value.cells d3 d22 d23 d83 d72 w3 cell_new cell_set rd_new rd_set off eq lt le ifB gv out ext20 ext21
/-! ### Cut nodes -/
/-- Is a node a cut node of a set that has it? -/
noncomputable def cutQ (g : List Nat) (S v : Nat) : Bool := !connS g (without (rch g S v) (2 ^ v))

noncomputable def cutsP (g : List Nat) (S : Nat) : Nat := mkS (fun v => S.testBit v && cutQ g S v) 10

theorem cutsP_lt (g : List Nat) (S : Nat) : cutsP g S < 1024 := mkS_lt _ 10

theorem cutsP_bit {g : List Nat} {S v : Nat} (hS : S < 1024) : (cutsP g S).testBit v = true ↔ S.testBit v = true ∧ cutQ g S v = true := by
  unfold cutsP
  rw [mkS_bit, Bool.and_eq_true, Bool.and_eq_true, decide_eq_true_iff]
  exact ⟨And.right, fun h => ⟨bit_lt (n := 10) hS h.1, h⟩⟩

/-- Numbers put into a set one by one. -/
theorem orIf_bit {p : Nat → Bool} {u : Nat} : ∀ (L : List Nat) (i s : Nat), (foldI (fun _ v s => if p v = true then s ||| 2 ^ v else s) L i s).testBit u = true ↔ s.testBit u = true ∨ (u ∈ L ∧ p u = true) := by
  intro L
  induction L with
  | nil => intro i s; simp [foldI]
  | cons v L ih =>
    intro i s
    simp only [foldI]
    rw [ih]
    have h1 : (if p v = true then s ||| 2 ^ v else s).testBit u = true ↔ s.testBit u = true ∨ (u = v ∧ p u = true) := by
      split
      · rename_i hp
        rw [Nat.testBit_or, Nat.testBit_two_pow, Bool.or_eq_true, decide_eq_true_iff]
        constructor
        · rintro (h | h)
          · exact .inl h
          · exact .inr ⟨h.symm, h ▸ hp⟩
        · rintro (h | ⟨h, _⟩)
          · exact .inl h
          · exact .inr h.symm
      · rename_i hp
        constructor
        · exact .inl
        · rintro (h | ⟨rfl, h⟩)
          · exact h
          · exact absurd h hp
    rw [h1, List.mem_cons]
    constructor
    · rintro ((h | ⟨h, h'⟩) | ⟨h, h'⟩)
      · exact .inl h
      · exact .inr ⟨.inl h, h'⟩
      · exact .inr ⟨.inr h, h'⟩
    · rintro (h | ⟨h | h, h'⟩)
      · exact .inl (.inl h)
      · exact .inl (.inr ⟨h, h'⟩)
      · exact .inr ⟨h, h'⟩

theorem orIf_lt {p : Nat → Bool} {n : Nat} : ∀ (L : List Nat) (i s : Nat), s < 2 ^ n → (∀ v ∈ L, v < n) → foldI (fun _ v s => if p v = true then s ||| 2 ^ v else s) L i s < 2 ^ n := by
  intro L
  induction L with
  | nil => intro i s h _; exact h
  | cons v L ih =>
    intro i s h hv
    simp only [foldI]
    refine ih _ _ ?_ fun w hw => hv w (List.mem_cons_of_mem _ hw)
    split
    · exact Nat.or_lt_two_pow h (Nat.pow_lt_pow_right (by omega) (hv v List.mem_cons_self))
    · exact h

theorem rch_ltn {g : List Nat} {W v : Nat} (hg : GrB g) (hv : v < g.length) (hW : W < 2 ^ g.length) : rch g W v < 2 ^ g.length := by
  have hlen := hg.len
  have hW' : W < 1024 := Nat.lt_of_lt_of_le hW hg.pow
  refine Nat.lt_pow_two_of_testBit _ fun i hi => ?_
  rw [Bool.eq_false_iff]
  intro h
  have hr := (rch_bit (by omega) hW').1 h
  cases hr with
  | base => omega
  | step _ _ hb => have := bit_lt hW hb; omega

theorem cut_calc {g : List Nat} {S v : Nat} (hg : GrB g) (hv : v < g.length) (hS : S < 2 ^ g.length) : AM.andNot .i64 (rch g S v : Int) (AM.shl .i64 1 (v : Int)) = ((without (rch g S v) (2 ^ v) : Nat) : Int) := by
  have h1 := rch_lt g S v
  have hlen := hg.len
  have hv' : 2 ^ v < 2 ^ 10 := Nat.pow_lt_pow_right (by omega) (by omega)
  rw [shl1_nat (by omega), andNot_nat (by omega) (by omega)]

theorem s42 {tv : Value} {g : List Nat} {S : Nat} {h : H} (hg : GrB g) (hs : SlR h 3 1 tv (cellsN g)) (hS : S < 2 ^ g.length) : rn 42 #[tv, iv S] h = some (iv (cutsP g S : Nat), h) := by
  have hlen := hg.len
  have hS' : S < 1024 := Nat.lt_of_lt_of_le hS hg.pow
  obtain ⟨nv, h1, e54, x1w, hn⟩ := s54 hS' h
  have x1 := x1w.toExt
  have c76 := fun (K : Value → H → Option (Value × H)) => calls_eq (K := K) (xs := [iv S]) e54
  have hnn : ∀ {T : Type} (K : Int → Option T), len nv K = K ((elts S).length : Int) := fun K => by rw [hn.len]; simp
  have hpl : (elts S).length ≤ 10 := by rw [elts_len]; exact pop_le_n (Nat.le_refl 10) hS'
  have hl := lp_same (σ := Nat) (ρ := Empty) (F := f42_l1 rn 200 tv S nv (elts S).length) (k := 200) (l := elts S) (h := h1) (fun i s => [iv s, iv i])
    (fun _ v s => .inl (if cutQ g S v = true then s ||| 2 ^ v else s)) (fun _ s => s < 1024) (fun _ => .ret) (fun _ => []) 0 (fun s => [iv s, iv (elts S).length]) (ws := [iv 0, iv 0]) (s0 := 0) rfl (by decide) (by omega) (by simp)
    (fun _ _ => by simp [f42_l1])
    (by
      intro i v s hx hI
      have hi := (List.getElem?_eq_some_iff.1 hx).1
      have hv : v < g.length := bit_lt hS ((mem_elts hS').1 (List.mem_of_getElem? hx))
      have hv' : 2 ^ v < 2 ^ 10 := Nat.pow_lt_pow_right (by omega) (by omega)
      refine ⟨fun s' hs' => by cases hs'; split; exact Nat.or_lt_two_pow (n := 10) hI hv'; exact hI, ?_⟩
      have e1 : ∀ (K : Value → Option (Ex × List Value × H)), (six nv (i : Int) 1 fun b o => (h1.cell b o).bind K) = K (iv v) := fun K => hn.c0 (by omega) (x := [iv v]) (by simp [hx]) rfl K
      have c78 := fun (K : Value → H → Option (Ex × List Value × H)) => calls_eq (K := K) (xs := [tv, iv v, iv S]) (s72 hg (hs.ext x1) hv hS)
      have c64 := fun (K : Value → H → Option (Ex × List Value × H)) => calls_eq (K := K) (xs := [tv, iv (without (rch g S v) (2 ^ v) : Nat)]) (s44 hg (hs.ext x1) (without_le _ _ (rch_ltn hg hv hS)))
      have hadd : add .i64 (i : Int) 1 = (i : Int) + 1 := add64 (by omega) (by omega)
      have hor : AM.or .i64 (s : Int) (AM.shl .i64 1 (v : Int)) = ((s ||| 2 ^ v : Nat) : Int) := by rw [shl1_nat (by omega), or_nat (by omega) (by omega)]
      have hcalc := cut_calc hg hv hS
      unfold cutQ
      cases hq : connS g (without (rch g S v) (2 ^ v)) with
      | true => simp [f42_l1, hi, e1, c78, nn_ge (show (0 : Int) ≤ (v : Int) by omega), hcalc, c64, hq, hadd, rnd]
      | false => simp [f42_l1, hi, e1, c78, nn_ge (show (0 : Int) ≤ (v : Int) by omega), hcalc, c64, hq, hadd, hor, rnd])
  rw [itL_inl (fun _ v s => if cutQ g S v = true then s ||| 2 ^ v else s)] at hl
  have he : foldI (fun _ v s => if cutQ g S v = true then s ||| 2 ^ v else s) (elts S) 0 0 = cutsP g S := by
    refine set_ext (n := 10) (orIf_lt (n := 10) _ _ _ (by decide) fun v hv => by have := bit_lt hS ((mem_elts hS').1 hv); omega) (cutsP_lt g S) fun i _ => ?_
    rw [Bool.eq_iff_iff, orIf_bit, cutsP_bit hS', mem_elts hS']
    simp
  rw [he] at hl
  refine p42 (k := 200) (h1 := h1) ?_ rfl x1
  unfold f42
  rw [c76, hnn]
  refine (lp_eq hl.1).trans ?_
  rfl

end Go.AM

end

section

/- A town without an edge: the program's, and the document's. -/
namespace Go.AM
open Go.Proofs
variable {R : Type}
attribute [local simp] nx_eq nx_new nx_set blk_new blk_set asI_int asK_int asB_bool asP_ptr al_eq bx_eq len_slice onE_exit onE_ret onR_ret Value.cells d3 d22 d23 d83 d72 w3 cell_new cell_set rd_new rd_set off eq lt le ifB gv out ext20 ext21
/-- An empty literal that is appended to: no row is written. -/
theorem app_lit_wr {P : Program} {h : H} {e t t' : TypeId} {s b : Nat} {y : Value} {ys : List (List Value)} (ht : okApp P t e s = true) (ht' : okApp P t' e s = true) (hy : SlR h e s y ys) (hm : ys.length < 2 ^ 30) :
    AM.app P h t t' (.slice (some ⟨b, 0, none⟩) 0 0) y (fun _ g => some g.wr) = some h.wr := by
  obtain ⟨i, z, h1, h2, h3, h4, h5, h6, h7⟩ := okApp_spec ht
  obtain ⟨_, _, h1', _⟩ := okApp_spec ht'
  have hsrc := hy.srcAll h6
  have hlen := hy.lenOf
  have h30 : (2:Nat) ^ 30 < U := by decide
  have hc0 : capK 0 = 0 := rfl
  unfold AM.app append
  simp only [h1, h1', h2, h3, hlen, h4, hsrc, Option.bind_some, hc0]
  rw [if_pos ⟨h5, h6, h7⟩]
  by_cases h0 : ys.length = 0
  · rw [if_pos h0]; rfl
  · rw [if_neg h0, if_neg (by omega), if_pos (by omega), if_pos (by omega)]
    rfl

theorem cellsN_scal (g : List Nat) : (cellsN g).flatten.all scal = true := by
  rw [List.all_eq_true]
  intro x hx
  obtain ⟨y, hy, hxy⟩ := List.mem_flatten.1 hx
  obtain ⟨n, _, rfl⟩ := List.mem_map.1 hy
  simp at hxy
  subst hxy
  rfl

/-- A copy by a literal and an append: it owns its row. -/
theorem copy_ia {P : Program} {h : H} {t : TypeId} {y : Value} {g : List Nat} (ht : okApp P t 3 1 = true) (hb : ∀ h : H, buildSlice P t 0 [] h = some (.slice (some ⟨h.nx, 0, none⟩) 0 0, h.new (.row [] 3 true))) (hy : SlR h 3 1 y (cellsN g)) (hg : g ≠ []) (hm : g.length < 1000) :
    ∃ v' h' b, (∀ {T : Type} (K : Value → H → Option T), (bls P h t 0 [] fun v1 h1 => AM.app P h1 t t v1 y K) = K v' h') ∧ Ext h h' ∧ h.nx ≤ b ∧ IA h' b v' (g.map Int.ofNat) ∧ h'.wr = h.wr := by
  have x1 := Ext.new h (.row [] 3 true)
  have hlit : AqR h.nx (h.new (.row [] 3 true)) 3 1 (.slice (some ⟨h.nx, 0, none⟩) 0 0) [] := AqR.lit (l := []) (Nat.le_refl _) rfl (by simp) (by simp)
  obtain ⟨v', h', e, a, n, k, _⟩ := hlit.app ht ht (hy.ext x1) (cellsN_scal g) (by simp; omega) (by rw [nx_new]; omega)
  have hw := app_lit_wr (P := P) (b := h.nx) ht ht (hy.ext x1) (by simp; omega)
  rw [e] at hw
  rw [List.nil_append, ← cellsN_eq] at a
  obtain ⟨b, hb1, _, hia⟩ := a.ia (by simpa using hg)
  refine ⟨v', h', b, fun K => ?_, ⟨by rw [nx_new] at n; omega, fun q hq => ?_⟩, hb1, hia, by simpa [H.new] using hw⟩
  · rw [bls_some (hb h)]; exact e K
  · rw [k q (by rw [nx_new]; omega) (fun e => by cases e; omega)]
    exact x1.blk q hq

end Go.AM

end

section

/- Bridges: the program's and the document's. -/
namespace Go.AM
open Go.Proofs
variable {R : Type}
attribute [local simp] nx_eq nx_new nx_set blk_new blk_set asI_int asK_int asB_bool asP_ptr al_eq bx_eq len_slice onE_exit onE_ret onR_ret Value.cells d3 d22 d23 d83 d72 w3 w83 cell_new cell_set rd_new rd_set off eq lt le ifB gv out ext20 ext21
/-! ### Two numbers of a row that is owned are turned -/
theorem nb_get {g : List Nat} {i : Nat} (hi : i < g.length) : (g.map Int.ofNat)[i]? = some ((nb g i : Nat) : Int) := by
  unfold nb
  rw [List.getElem?_map, List.getD_eq_getElem?_getD, List.getElem?_eq_getElem hi]
  rfl

theorem nb_eq {g : List Nat} {i : Nat} {x : Int} (h : (g.map Int.ofNat)[i]? = some x) : x = ((nb g i : Nat) : Int) := by
  have hi : i < g.length := by have := (List.getElem?_eq_some_iff.1 h).1; simpa using this
  rw [nb_get hi] at h
  exact (Option.some.inj h).symm

/-! ### Bridges -/
end Go.AM

end

section

/- The program's bridges: edges are deleted in place. -/
namespace Go.AM
open Go.Proofs
variable {R : Type}
attribute [local simp] nx_eq nx_new nx_set blk_new blk_set asI_int asK_int asB_bool asP_ptr al_eq bx_eq len_slice onE_exit onE_ret onR_ret Value.cells d3 d22 d23 d83 d72 w3 w83 cell_new cell_set rd_new rd_set off eq lt le ifB gv out ext20 ext21
theorem s16 {v : Value} {g : List Nat} {h : H} (hg : GrN g) (hval : validG (g.map Int.ofNat) = true) (hs : SlR h 3 1 v (cellsN g)) : rn 16 #[v] h = some (.tuple #[iv (cutsP g (allN g) : Nat), iv 0], h) := by
  have c63 := fun (K : Value → H → Option (Value × H)) => calls_eq (K := K) (xs := [v]) (s36 (l := g.map Int.ofNat) (h := h) (by rw [cellsN_eq]; exact hs))
  rw [if_pos hval] at c63
  have c65 := fun (K : Value → H → Option (Value × H)) => calls_eq (K := K) (xs := [v]) (s43 hg.toGrB hs)
  have c70 := fun (K : Value → H → Option (Value × H)) => calls_eq (K := K) (xs := [v, iv (allN g : Nat)]) (s42 hg.toGrB hs (allN_lt g))
  refine p16 (k := 0) (h1 := h) ?_ rfl (.refl _)
  simp [f16, c63, c65, c70]

end Go.AM

end

section

/- The staged forms of functions 10, 37, 52, 83, 90, 41, 21, 53, and what calls of these answer. -/
namespace Go.AM
open Go.Proofs
noncomputable def f10 (rec : Rec) (_k : Nat) (v0 : Value) (h0 : H) : Option (Value × H) :=
  calls rec h0 36 [v0] fun v1 h1 =>
  ext v1 0 fun v2 =>
  ext v1 1 fun v3 =>
  asB v3 fun q0 =>
  ifB (not q0) (
    some ((.tuple #[(.slice none 0 0), (.int .i64 2)]), h1)) (
    calls rec h1 37 [v2] fun v4 h2 =>
    some ((.tuple #[v4, (.int .i64 0)]), h2))

theorem e10 (rec : Rec) (k : Nat) (v0 : Value) (h : H) : bodyT Tryd.prog E0 SC (XC Tryd.prog rec k) 10 (Value × H) [.opq v0] h (fun v h => some (v, h)) = f10 rec k v0 h := by kernel_rfl

theorem t10 {k : Nat} {v0 : Value} {h h1 : H} {v : Value} (hh : f10 rn k v0 h = some (v, h1)) : rn 10 #[v0] h = some (v, trunc Tryd.prog h h1 v) :=
  run_of_bodyT (args := [.opq v0]) rfl ((e10 _ _ _ _).trans hh)

theorem x10 {k : Nat} {v0 : Value} {h h1 : H} {v : Value} (hh : f10 rn k v0 h = some (v, h1)) (hp : plainO v = false) : ∃ h2, rn 10 #[v0] h = some (v, h2) ∧ Sm h1 h2 ∧ (Ext h h1 → Exw h h2) := trunc_cell hp (t10 hh)

noncomputable def f37_l1 (rec : Rec) (_k : Nat) (v0 : Value) (ws0 : List Value) (h1 : H) : Option (Ex × List Value × H) :=
  calls rec h1 43 [v0] fun v1 h2 =>
  asI .i64 v1 fun n0 =>
  asI .i64 (gv ws0 1) fun n1 =>
  ifB (le n1 n0) (
    calls rec h2 55 [gv ws0 1] fun v2 h3 =>
    asI .i64 v2 fun n2 =>
    ifB (eq n2 1) (
      asI .i64 (gv ws0 1) fun n3 =>
      calls rec h3 79 [(.int .u64 (wr .u64 n3))] fun v3 h4 =>
      asI .i64 v3 fun n4 =>
      six v0 n4 1 fun b0 b1 =>
      ld Tryd.prog h4 3 b0 b1 fun v4 =>
      asI .i64 v4 fun n5 =>
      ifB (eq n5 0) (
        bls Tryd.prog h4 22 1 [(0, gv ws0 1)] fun v5 h5 =>
        app Tryd.prog h5 22 22 (gv ws0 0) v5 fun v6 h6 =>
        asI .i64 (gv ws0 1) fun n6 =>
        out .normal [v6, (.int .i64 (add .i64 n6 1))] h6) (
        calls rec h4 55 [gv ws0 1] fun v7 h7 =>
        asI .i64 v7 fun n7 =>
        ifB (lt 1 n7) (
          calls rec h7 44 [v0, gv ws0 1] fun v8 h8 =>
          asB v8 fun q0 =>
          ifB q0 (
            calls rec h8 42 [v0, gv ws0 1] fun v9 h9 =>
            asI .i64 v9 fun n8 =>
            ifB (eq n8 0) (
              bls Tryd.prog h9 22 1 [(0, gv ws0 1)] fun v10 h10 =>
              app Tryd.prog h10 22 22 (gv ws0 0) v10 fun v11 h11 =>
              asI .i64 (gv ws0 1) fun n9 =>
              out .normal [v11, (.int .i64 (add .i64 n9 1))] h11) (
              asI .i64 (gv ws0 1) fun n10 =>
              out .normal [gv ws0 0, (.int .i64 (add .i64 n10 1))] h9)) (
            asI .i64 (gv ws0 1) fun n11 =>
            out .normal [gv ws0 0, (.int .i64 (add .i64 n11 1))] h8)) (
          asI .i64 (gv ws0 1) fun n12 =>
          out .normal [gv ws0 0, (.int .i64 (add .i64 n12 1))] h7))) (
      calls rec h3 55 [gv ws0 1] fun v12 h12 =>
      asI .i64 v12 fun n13 =>
      ifB (lt 1 n13) (
        calls rec h12 44 [v0, gv ws0 1] fun v13 h13 =>
        asB v13 fun q1 =>
        ifB q1 (
          calls rec h13 42 [v0, gv ws0 1] fun v14 h14 =>
          asI .i64 v14 fun n14 =>
          ifB (eq n14 0) (
            bls Tryd.prog h14 22 1 [(0, gv ws0 1)] fun v15 h15 =>
            app Tryd.prog h15 22 22 (gv ws0 0) v15 fun v16 h16 =>
            asI .i64 (gv ws0 1) fun n15 =>
            out .normal [v16, (.int .i64 (add .i64 n15 1))] h16) (
            asI .i64 (gv ws0 1) fun n16 =>
            out .normal [gv ws0 0, (.int .i64 (add .i64 n16 1))] h14)) (
          asI .i64 (gv ws0 1) fun n17 =>
          out .normal [gv ws0 0, (.int .i64 (add .i64 n17 1))] h13)) (
        asI .i64 (gv ws0 1) fun n18 =>
        out .normal [gv ws0 0, (.int .i64 (add .i64 n18 1))] h12))) (
    out (.exit 0) [gv ws0 0, gv ws0 1] h2)

noncomputable def f37_l2 (rec : Rec) (_k : Nat) (ws1 : List Value) (n19 : Int) (ws2 : List Value) (h18 : H) : Option (Ex × List Value × H) :=
  asI .i64 (gv ws2 1) fun n20 =>
  ifB (lt n20 n19) (
    asK (gv ws2 1) fun n21 =>
    six (gv ws1 0) n21 1 fun b2 b3 =>
    ld Tryd.prog h18 3 b2 b3 fun v17 =>
    asI .i64 v17 fun n22 =>
    al h18 3 [(.int .i64 0)] fun h19 =>
    st Tryd.prog h19 3 (nx h18) 0 (.int .i64 n22) fun h20 =>
    calls rec h20 52 [gv ws1 0, (.func (.func 83) #[] #[(pt (nx h18) 0)])] fun v18 h21 =>
    asB v18 fun q2 =>
    ifB (not q2) (
      ld Tryd.prog h21 3 (nx h18) 0 fun v19 =>
      asI .i64 v19 fun n23 =>
      bls Tryd.prog h21 22 1 [(0, (.int .i64 n23))] fun v20 h22 =>
      app Tryd.prog h22 22 22 (gv ws2 0) v20 fun v21 h23 =>
      asI .i64 (gv ws2 1) fun n24 =>
      out .normal [v21, (.int .i64 (add .i64 n24 1))] h23) (
      asI .i64 (gv ws2 1) fun n25 =>
      out .normal [gv ws2 0, (.int .i64 (add .i64 n25 1))] h21)) (
    out (.exit 2) [gv ws2 0, gv ws2 1] h18)

noncomputable def f37 (rec : Rec) (k : Nat) (v0 : Value) (h0 : H) : Option (Value × H) :=
  lp k (f37_l1 rec k v0) [(.slice none 0 0), (.int .i64 1)] h0 fun e0 ws1 h17 =>
  onE e0 0 (
    len (gv ws1 0) fun n19 =>
    lp k (f37_l2 rec k ws1 n19) [(.slice none 0 0), (.int .i64 0)] h17 fun e1 ws3 h24 =>
    onE e1 2 (
      some (gv ws3 0, h24)) (
      none)) (
    none)

theorem e37 (rec : Rec) (k : Nat) (v0 : Value) (h : H) : bodyT Tryd.prog E0 SC (XC Tryd.prog rec k) 37 (Value × H) [.opq v0] h (fun v h => some (v, h)) = f37 rec k v0 h := by kernel_rfl

theorem t37 {k : Nat} {v0 : Value} {h h1 : H} {v : Value} (hh : f37 rn k v0 h = some (v, h1)) : rn 37 #[v0] h = some (v, trunc Tryd.prog h h1 v) :=
  run_of_bodyT (args := [.opq v0]) rfl ((e37 _ _ _ _).trans hh)

theorem x37 {k : Nat} {v0 : Value} {h h1 : H} {v : Value} (hh : f37 rn k v0 h = some (v, h1)) (hp : plainO v = false) : ∃ h2, rn 37 #[v0] h = some (v, h2) ∧ Sm h1 h2 ∧ (Ext h h1 → Exw h h2) := trunc_cell hp (t37 hh)

noncomputable def f52 (rec : Rec) (_k : Nat) (v0 : Value) (v1 : Value) (h0 : H) : Option (Value × H) :=
  calls rec h0 90 [v0, v1] fun v2 h1 =>
  asI .i64 v2 fun n0 =>
  some ((.bool (le 0 n0)), h1)

theorem e52 (rec : Rec) (k : Nat) (v0 : Value) (v1 : Value) (h : H) : bodyT Tryd.prog E0 SC (XC Tryd.prog rec k) 52 (Value × H) [.opq v0, .opq v1] h (fun v h => some (v, h)) = f52 rec k v0 v1 h := by kernel_rfl

theorem t52 {k : Nat} {v0 : Value} {v1 : Value} {h h1 : H} {v : Value} (hh : f52 rn k v0 v1 h = some (v, h1)) : rn 52 #[v0, v1] h = some (v, trunc Tryd.prog h h1 v) :=
  run_of_bodyT (args := [.opq v0, .opq v1]) rfl ((e52 _ _ _ _ _).trans hh)

theorem p52 {k : Nat} {v0 : Value} {v1 : Value} {h h1 : H} {v : Value} (hh : f52 rn k v0 v1 h = some (v, h1)) (hp : plainO v = true) (x : Ext h h1) : rn 52 #[v0, v1] h = some (v, h) := by rw [t52 hh, trunc_pure hp x]

noncomputable def f83 (_rec : Rec) (_k : Nat) (n0 : Int) (v0 : Value) (h0 : H) : Option (Value × H) :=
  asP v0 fun b0 b1 =>
  ld Tryd.prog h0 3 b0 b1 fun v1 =>
  asI .i64 v1 fun n1 =>
  ifB (not (eq n0 n1)) (
    asP v0 fun b2 b3 =>
    ld Tryd.prog h0 3 b2 b3 fun v2 =>
    asI .i64 v2 fun n2 =>
    some ((.bool (eq (andNot .i64 n2 n0) 0)), h0)) (
    some ((.bool false), h0))

theorem e83 (rec : Rec) (k : Nat) (n0 : Int) (v0 : Value) (h : H) : bodyT Tryd.prog E0 SC (XC Tryd.prog rec k) 83 (Value × H) [.int .i64 n0, .opq v0] h (fun v h => some (v, h)) = f83 rec k n0 v0 h := by kernel_rfl

theorem t83 {k : Nat} {n0 : Int} {v0 : Value} {h h1 : H} {v : Value} (hh : f83 rn k n0 v0 h = some (v, h1)) : rn 83 #[.int .i64 n0, v0] h = some (v, trunc Tryd.prog h h1 v) :=
  run_of_bodyT (args := [.int .i64 n0, .opq v0]) rfl ((e83 _ _ _ _ _).trans hh)

theorem p83 {k : Nat} {n0 : Int} {v0 : Value} {h h1 : H} {v : Value} (hh : f83 rn k n0 v0 h = some (v, h1)) (hp : plainO v = true) (x : Ext h h1) : rn 83 #[.int .i64 n0, v0] h = some (v, h) := by rw [t83 hh, trunc_pure hp x]

noncomputable def f90_l1 (rec : Rec) (_k : Nat) (v0 : Value) (v1 : Value) (n0 : Int) (ws0 : List Value) (h1 : H) : Option (Ex × List Value × H) :=
  asI .i64 (gv ws0 1) fun n1 =>
  ifB (lt n1 n0) (
    asK (gv ws0 1) fun n2 =>
    six v0 n2 1 fun b0 b1 =>
    ld Tryd.prog h1 3 b0 b1 fun v2 =>
    asI .i64 v2 fun n3 =>
    callsV rec h1 v1 [(.int .i64 n3)] fun v3 h2 =>
    asB v3 fun q0 =>
    ifB q0 (
      out .ret [gv ws0 1, gv ws0 1] h2) (
      asI .i64 (gv ws0 1) fun n4 =>
      out .normal [gv ws0 0, (.int .i64 (add .i64 n4 1))] h2)) (
    out (.exit 0) [gv ws0 0, gv ws0 1] h1)

noncomputable def f90 (rec : Rec) (k : Nat) (v0 : Value) (v1 : Value) (h0 : H) : Option (Value × H) :=
  len v0 fun n0 =>
  lp k (f90_l1 rec k v0 v1 n0) [(.int .i64 0), (.int .i64 0)] h0 fun e0 ws1 h3 =>
  onE e0 0 (
    some ((.int .i64 (-1)), h3)) (
    onR e0 (
      some (gv ws1 0, h3)))

theorem e90 (rec : Rec) (k : Nat) (v0 : Value) (v1 : Value) (h : H) : bodyT Tryd.prog E0 SC (XC Tryd.prog rec k) 90 (Value × H) [.opq v0, .opq v1] h (fun v h => some (v, h)) = f90 rec k v0 v1 h := by kernel_rfl

theorem t90 {k : Nat} {v0 : Value} {v1 : Value} {h h1 : H} {v : Value} (hh : f90 rn k v0 v1 h = some (v, h1)) : rn 90 #[v0, v1] h = some (v, trunc Tryd.prog h h1 v) :=
  run_of_bodyT (args := [.opq v0, .opq v1]) rfl ((e90 _ _ _ _ _).trans hh)

theorem p90 {k : Nat} {v0 : Value} {v1 : Value} {h h1 : H} {v : Value} (hh : f90 rn k v0 v1 h = some (v, h1)) (hp : plainO v = true) (x : Ext h h1) : rn 90 #[v0, v1] h = some (v, h) := by rw [t90 hh, trunc_pure hp x]

end Go.AM

end

section

/- Blocks, the walk. -/
namespace Go.AM
open Go.Proofs
variable {R : Type}
attribute [local simp] nx_eq nx_new nx_set blk_new blk_set asI_int asK_int asB_bool asP_ptr al_eq bx_eq len_slice onE_exit onE_ret onR_ret Value.cells d3 d22 d23 d83 d72 w3 w83 cell_new cell_set rd_new rd_set off eq lt le ifB gv out ext20 ext21
/-- A loop that appends what passes a test. -/
theorem lp_filter {α : Type} {F : List Value → H → Option (Ex × List Value × H)} {k : Nat} {l : List α} {h0 : H} (p : α → Bool) (f : α → Nat) (jv : Nat → Value) (oj : Nat) (hk : l.length < k)
    (fin : ∀ sv g, Ext h0 g → F [sv, jv l.length] g = some (.exit oj, [sv, jv l.length], g))
    (step : ∀ i x sv g, l[i]? = some x → Ext h0 g → ∃ g', Ext g g' ∧ F [sv, jv i] g = if p x = true then (bls Tryd.prog g' 22 1 [(0, iv (f x : Nat))] fun v5 h5 => app Tryd.prog h5 22 22 sv v5 fun v6 h6 => some (.normal, [v6, jv (i + 1)], h6)) else some (.normal, [sv, jv (i + 1)], g'))
    {acc : List Nat} {sv : Value} {h : H} (x0 : Ext h0 h) (hap : AqR h0.nx h 3 1 sv (cellsN acc)) (hl : acc.length + l.length < 2 ^ 25) :
    ∃ sv' h', lpGo F k [sv, jv 0] h = some (.exit oj, [sv', jv l.length], h') ∧ Ext h0 h' ∧ AqR h0.nx h' 3 1 sv' (cellsN (acc ++ (l.filter p).map f)) := by
  obtain ⟨ws', h', hl', xg, hll, sv', hap', rfl⟩ := lp_for (F := F) (k := k) (l := l) (fun _ x acc => if p x = true then acc ++ [f x] else acc)
    (fun i acc' ws h' => Ext h0 h' ∧ acc'.length ≤ acc.length + i ∧ ∃ sv, AqR h0.nx h' 3 1 sv (cellsN acc') ∧ ws = [sv, jv i]) oj (ws := [sv, jv 0]) (h := h) (s0 := acc)
    ⟨x0, by omega, sv, hap, rfl⟩ hk
    (by
      rintro acc' ws g ⟨xg, _, sv, _, rfl⟩
      exact fin sv g xg)
    (by
      rintro i x acc' ws g hx ⟨xg, hal, sv, hap1, rfl⟩
      have hi := (List.getElem?_eq_some_iff.1 hx).1
      obtain ⟨g', x', hF⟩ := step i x sv g hx xg
      by_cases hp : p x = true
      · rw [if_pos hp] at hF ⊢
        obtain ⟨sv', h2, e2, a2, n2, k2, b2, hb2, hb2'⟩ := (hap1.ext x').push app22 app22 (bls22 (f x : Int)) rfl rfl (by rw [List.length_map]; omega) (xg.trans x').nx
        rw [hF, e2]
        refine ⟨_, _, rfl, ⟨by have := (xg.trans x').nx; omega, fun b hb => ?_⟩, by simp; omega, sv', ?_, rfl⟩
        · rw [k2 b (by have := (xg.trans x').nx; omega) (fun e => by have := ((hap1.ext x').blkOf e).1; omega)]
          exact (xg.trans x').blk b hb
        · have : cellsN (acc' ++ [f x]) = cellsN acc' ++ [[iv (f x : Int)]] := by simp
          rw [this]; exact a2
      · rw [if_neg hp] at hF ⊢
        rw [hF]
        exact ⟨_, _, rfl, xg.trans x', by omega, sv, hap1.ext x', rfl⟩)
  rw [foldI_filter] at hap'
  exact ⟨sv', h', hl', xg, hap'⟩

theorem s55 {S : Nat} (hS : S < 1024) (h : H) : rn 55 #[iv S] h = some (iv (pop S : Nat), h) := by
  refine p55 (k := 0) (h1 := h) ?_ rfl (.refl _)
  unfold f55
  rw [wr64u hS, calls_eq (xs := [.int .u64 S]) (s64 hS h), asI_int]

/-- Is there an element with a property? -/
theorem s90 {v : Value} {F cb : Nat} {L : List Nat} {p : Nat → Bool} {h : H} (hs : SlR h 3 1 v (cellsN L)) (hm : L.length < 2 ^ 20)
    (hp : ∀ e ∈ L, rn F #[iv e, pt cb 0] h = some (.bool (p e), h)) :
    ∃ i : Int, rn 90 #[v, .func (.func F) #[] #[pt cb 0]] h = some (iv i, h) ∧ (0 ≤ i ↔ L.any p = true) := by
  have hn : ∀ {T : Type} (K : Int → Option T), len v K = K (L.length : Int) := fun K => by rw [hs.len]; simp
  have hlp := lp_all (F := f90_l1 rn (2 ^ 21) v (.func (.func F) #[] #[pt cb 0]) L.length) (k := 2 ^ 21) (l := L) (h := h) (fun i => [iv 0, iv i])
    (fun _ x => !p x) (fun i => [iv i, iv i]) 0 [iv 0, iv L.length] (ws := [iv 0, iv 0]) rfl (by omega)
    (by simp [f90_l1])
    (by
      intro i x hx
      have hi := (List.getElem?_eq_some_iff.1 hx).1
      have hadd : add .i64 (i : Int) 1 = (i : Int) + 1 := add64 (by omega) (by omega)
      have e1 : ∀ (K : Value → Option (Ex × List Value × H)), (six v (i : Int) 1 fun b o => (h.cell b o).bind K) = K (iv x) := fun K => hs.c0 (by omega) (x := [iv x]) (by simp [hx]) rfl K
      have cF := fun (K : Value → H → Option (Ex × List Value × H)) => calls_eq (K := K) (xs := [iv x, pt cb 0]) (hp x (List.mem_of_getElem? hx))
      unfold f90_l1
      rw [show AM.gv [iv 0, iv i] 1 = iv i from rfl, asI_int, lt_t (by omega), ifB_true, asK_int]
      simp only [d3]
      rw [e1, asI_int, callsV_eq]
      rw [show (#[] : Array Value).toList ++ [Value.int .i64 x] ++ (#[pt cb 0] : Array Value).toList = [iv x, pt cb 0] from rfl, cF, asB_bool]
      cases p x <;> simp [hadd])
  rcases hlp with ⟨i, x, hx, hf, hbe, hl⟩ | ⟨hall, hl⟩
  · refine ⟨i, ?_, fun _ => ?_, fun _ => by omega⟩
    · refine p90 (k := 2 ^ 21) (h1 := h) ?_ rfl (.refl _)
      unfold f90
      rw [hn]
      exact (lp_eq hl).trans rfl
    · rw [List.any_eq_true]
      exact ⟨x, List.mem_of_getElem? hx, by simpa using hf⟩
  · refine ⟨-1, ?_, fun hc => by omega, fun hc => ?_⟩
    · refine p90 (k := 2 ^ 21) (h1 := h) ?_ rfl (.refl _)
      unfold f90
      rw [hn]
      exact (lp_eq hl).trans rfl
    · obtain ⟨x, hx, hpx⟩ := List.any_eq_true.1 hc
      obtain ⟨i, hi, rfl⟩ := List.getElem_of_mem hx
      have := hall i _ (List.getElem?_eq_getElem hi)
      rw [hpx] at this
      cases this

theorem s52 {v : Value} {F cb : Nat} {L : List Nat} {p : Nat → Bool} {h : H} (hs : SlR h 3 1 v (cellsN L)) (hm : L.length < 2 ^ 20)
    (hp : ∀ e ∈ L, rn F #[iv e, pt cb 0] h = some (.bool (p e), h)) : rn 52 #[v, .func (.func F) #[] #[pt cb 0]] h = some (.bool (L.any p), h) := by
  obtain ⟨i, e, hi⟩ := s90 hs hm hp
  refine p52 (k := 0) (h1 := h) ?_ rfl (.refl _)
  unfold f52
  rw [calls_eq (xs := [v, .func (.func F) #[] #[pt cb 0]]) e, asI_int]
  have : AM.le 0 i = L.any p := by
    rw [Bool.eq_iff_iff, ← hi, AM.le, decide_eq_true_iff]
  rw [this]

/-- Does another set contain this one? The closure. -/
def overQ (b x : Nat) : Bool := decide (x ≠ b) && decide (without b x = 0)

theorem s83 {q b x : Nat} {h : H} (hb : b < 1024) (hx : x < 1024) (hq : h.cell q 0 = some (iv b)) : rn 83 #[iv x, pt q 0] h = some (.bool (overQ b x), h) := by
  have hcalc : AM.andNot .i64 (b : Int) (x : Int) = ((without b x : Nat) : Int) := andNot_nat (by omega) (by omega)
  refine p83 (k := 0) (h1 := h) ?_ rfl (.refl _)
  unfold f83
  simp only [asP_ptr, d3, hq, Option.bind_some, asI_int, hcalc]
  unfold overQ
  by_cases h1 : x = b
  · subst h1; simp
  · have : AM.eq (x : Int) (b : Int) = false := by simp; omega
    rw [this, decide_eq_true h1]
    by_cases h2 : without b x = 0
    · rw [h2]; rfl
    · have : AM.eq ((without b x : Nat) : Int) 0 = false := by simp; omega
      rw [this, decide_eq_false h2]; rfl

/-! ### The program's blocks -/
/-- A lone node, or a set of more that is connected without a cut node. -/
noncomputable def cand2 (g : List Nat) (S : Nat) : Bool := decide (1 < pop S) && connS g S && decide (cutsP g S = 0)

noncomputable def loneQ (g : List Nat) (S : Nat) : Bool := decide (pop S = 1) && decide (nb g (low S) = 0)

noncomputable def candQ (g : List Nat) (S : Nat) : Bool := loneQ g S || cand2 g S

noncomputable def candsP (g : List Nat) : List Nat := ((List.range (allN g)).map (· + 1)).filter (candQ g)

/-- All blocks, rising. -/
noncomputable def blocksP (g : List Nat) : List Nat := (candsP g).filter fun b => !(candsP g).any (overQ b)

theorem mem_cands {g : List Nat} {S : Nat} : S ∈ candsP g ↔ 0 < S ∧ S < 2 ^ g.length ∧ candQ g S = true := by
  have := Nat.two_pow_pos g.length
  unfold candsP allN
  rw [List.mem_filter, List.mem_map]
  constructor
  · rintro ⟨⟨i, hi, rfl⟩, h⟩
    have := List.mem_range.1 hi
    exact ⟨by omega, by omega, h⟩
  · rintro ⟨h1, h2, h3⟩
    exact ⟨⟨S - 1, List.mem_range.2 (by omega), by omega⟩, h3⟩

theorem cands_len {g : List Nat} (hg : GrB g) : (candsP g).length ≤ 1023 := by
  have := hg.pow
  unfold candsP
  refine Nat.le_trans (List.length_filter_le _ _) ?_
  unfold allN
  simp
  omega

set_option maxHeartbeats 1000000 in
theorem s37 {tv : Value} {g : List Nat} {h : H} (hg : GrB g) (hs : SlR h 3 1 tv (cellsN g)) :
    ∃ v' h', rn 37 #[tv] h = some (v', h') ∧ Exw h h' ∧ SlR h' 3 1 v' (cellsN (blocksP g)) := by
  have hlen := hg.len
  have hpow := hg.pow
  have hp2 := Nat.two_pow_pos g.length
  have hall : allN g < 1024 := by have := allN_lt g; omega
  obtain ⟨sv1, h1, hl1, x1, hap1⟩ := lp_filter (F := f37_l1 rn 200000 tv) (k := 200000) (l := (List.range (allN g)).map (· + 1)) (h0 := h) (candQ g) id (fun i => iv ((i + 1 : Nat) : Int)) 0 (by simp; omega)
    (by
      intro sv g' xg
      have c65 := fun (K : Value → H → Option (Ex × List Value × H)) => calls_eq (K := K) (xs := [tv]) (s43 hg (hs.ext xg))
      have : ¬ ((allN g : Int) + 1 ≤ (allN g : Int)) := by omega
      simp [f37_l1, c65, this])
    (by
      intro i S sv g' hx xg
      obtain ⟨j, hj, rfl⟩ : ∃ j, i < allN g ∧ S = i + 1 := by
        rw [List.getElem?_map] at hx
        obtain ⟨j, hj, rfl⟩ := Option.map_eq_some_iff.1 hx
        obtain ⟨h1, rfl⟩ := range_get hj
        exact ⟨0, h1, rfl⟩
      have hsg := hs.ext xg
      have hS : i + 1 < 2 ^ g.length := by have := allN_lt g; omega
      have hS' : i + 1 < 1024 := by omega
      obtain ⟨S, hSe⟩ : ∃ S, S = i + 1 := ⟨_, rfl⟩
      rw [← hSe] at hS hS' ⊢
      have c65 := fun (K : Value → H → Option (Ex × List Value × H)) => calls_eq (K := K) (xs := [tv]) (s43 hg hsg)
      have c93 := fun (K : Value → H → Option (Ex × List Value × H)) => calls_eq (K := K) (xs := [iv S]) (s55 hS' g')
      have c89 := fun (K : Value → H → Option (Ex × List Value × H)) => calls_eq (K := K) (xs := [.int .u64 S]) (s79 (by omega) hS' g')
      have hlow := low_lt hg hS (by omega)
      have e2 := fun (K : Value → Option (Ex × List Value × H)) => getN hsg hlow K
      have c64 := fun (K : Value → H → Option (Ex × List Value × H)) => calls_eq (K := K) (xs := [tv, iv S]) (s44 hg hsg hS)
      have c70 := fun (K : Value → H → Option (Ex × List Value × H)) => calls_eq (K := K) (xs := [tv, iv S]) (s42 hg hsg hS)
      have hadd : add .i64 (S : Int) 1 = ((S + 1 : Nat) : Int) := by rw [add64 (by omega) (by omega)]; omega
      have hle : (S : Int) ≤ (allN g : Int) := by omega
      refine ⟨g', .refl _, ?_⟩
      unfold f37_l1 candQ loneQ cand2
      rw [show AM.gv [sv, iv S] 1 = iv S from rfl, show AM.gv [sv, iv S] 0 = sv from rfl]
      simp only [c65, asI_int, c93, wr64u hS', c89, d3, e2, c64, asB_bool, c70, hadd, id_eq]
      rw [show AM.le (S : Int) (allN g : Int) = true by simp; omega, ifB_true]
      by_cases h1 : pop S = 1
      · rw [h1, show AM.eq ((1 : Nat) : Int) 1 = true from rfl, ifB_true, show AM.lt 1 ((1 : Nat) : Int) = false from rfl, ifB_false]
        by_cases h2 : nb g (low S) = 0
        · rw [h2, show AM.eq ((0 : Nat) : Int) 0 = true from rfl, ifB_true]
          simp
        · rw [show AM.eq (nb g (low S) : Int) 0 = false by simp; omega, ifB_false]
          simp [h2]
      · rw [show AM.eq (pop S : Int) 1 = false by simp; omega, ifB_false]
        by_cases h2 : 1 < pop S
        · rw [show AM.lt 1 (pop S : Int) = true by simp; omega, ifB_true]
          cases h3 : connS g S with
          | false => simp [h1, h2]
          | true =>
            by_cases h4 : cutsP g S = 0
            · rw [h4]; simp [h1, h2]
            · rw [ifB_true, show AM.eq (cutsP g S : Int) 0 = false by simp; omega, ifB_false]
              simp [h1, h2, h4]
        · rw [show AM.lt 1 (pop S : Int) = false by simp; omega, ifB_false]
          simp [h1, h2])
    (acc := []) (sv := .slice none 0 0) (h := h) (.refl _) .nil (by simp; omega)
  rw [List.nil_append, List.map_id_fun, id_eq] at hap1
  have hs1 := hap1.slR
  have hcl := cands_len hg
  have hn1 : ∀ {T : Type} (K : Int → Option T), len sv1 K = K ((candsP g).length : Int) := fun K => by
    rw [hs1.len, List.length_map]; rfl
  obtain ⟨sv2, h2, hl2, x2, hap2⟩ := lp_filter (F := f37_l2 rn 200000 [sv1, iv (((List.range (allN g)).map (· + 1)).length + 1 : Nat)] (candsP g).length) (k := 200000) (l := candsP g) (h0 := h1) (fun b => !(candsP g).any (overQ b)) id (fun i => iv (i : Int)) 2 (by omega)
    (by
      intro sv g' xg
      simp [f37_l2])
    (by
      intro i b sv g' hx xg
      have hi := (List.getElem?_eq_some_iff.1 hx).1
      obtain ⟨hb0, hb1, hb2⟩ := mem_cands.1 (List.mem_of_getElem? hx)
      have hsg := hs1.ext xg
      have e1 : ∀ (K : Value → Option (Ex × List Value × H)), (six sv1 (i : Int) 1 fun b o => (g'.cell b o).bind K) = K (iv b) := fun K => hsg.c0 (by omega) (x := [iv b]) (by
        have : (cellsN (candsP g))[i]? = some [iv b] := by simp [hx]
        exact this) rfl K
      obtain ⟨g3, hg3⟩ : ∃ g3, g3 = (g'.new (.row [.int .i64 0] 3 true)).set g'.nx (.row [iv b] 3 true) := ⟨_, rfl⟩
      have hb3 : g3.blk g'.nx = some (.row [iv b] 3 true) := by rw [hg3]; exact blk_set_self _ _ _
      have x3 : Ext g' g3 := by rw [hg3]; exact ((Ext.refl g').new' _).set (Nat.le_refl _) _
      have hc3 : g3.cell g'.nx 0 = some (iv b) := by rw [cell_of hb3]; rfl
      have w2 : ∀ (K : H → Option (Ex × List Value × H)), (wrc 1 (g'.new (.row [.int .i64 0] 3 true)) g'.nx 0 (iv b)).bind K = K g3 := fun K => by
        rw [wrc_one (blk_new_self _ _) rfl rfl (by simp), hg3]; rfl
      have c91 := fun (K : Value → H → Option (Ex × List Value × H)) => calls_eq (K := K) (xs := [sv1, .func (.func 83) #[] #[pt g'.nx 0]]) (s52 (F := 83) (cb := g'.nx) (p := overQ b) (hsg.ext x3) (by
        show (candsP g).length < 2 ^ 20; omega) (fun e he => by
        obtain ⟨_, h5, _⟩ := mem_cands.1 he
        exact s83 (by omega) (by omega) hc3))
      have hadd : add .i64 (i : Int) 1 = ((i + 1 : Nat) : Int) := by rw [add64 (by omega) (by omega)]; omega
      refine ⟨g3, x3, ?_⟩
      unfold f37_l2
      rw [show AM.gv [sv, iv i] 1 = iv i from rfl, show AM.gv [sv, iv i] 0 = sv from rfl, asI_int, lt_t (by omega), ifB_true, asK_int]
      simp only [gv, List.getD_cons_zero, d3, e1, asI_int, al_eq, w3, nx_eq, w2, c91, asB_bool, hc3, Option.bind_some, hadd, id_eq]
      have : (List.filter (candQ g) (List.map (fun x => x + 1) (List.range (allN g)))).any (overQ b) = (candsP g).any (overQ b) := rfl
      rw [this]
      cases (candsP g).any (overQ b) <;> simp)
    (acc := []) (sv := .slice none 0 0) (h := h1) (.refl _) .nil (by simp; omega)
  rw [List.nil_append, List.map_id_fun, id_eq] at hap2
  obtain ⟨h3, e3, m3, w3'⟩ := x37 (k := 200000) (v0 := tv) (h := h) (h1 := h2) (v := sv2) (by
    unfold f37
    refine (lp_eq hl1).trans ?_
    rw [onE_exit, if_pos rfl]
    simp only [gv, List.getD_cons_zero, hn1]
    refine (lp_eq hl2).trans ?_
    rfl) hap2.slR.notR
  exact ⟨sv2, h3, e3, w3' (x1.trans x2), hap2.slR.ext m3.ext⟩

end Go.AM

end

section

/- Blocks: the document's search finds the same (plain), and its walk. -/
namespace Go.AM
open Go.Proofs
variable {R : Type}
/-! ### Plain -/
/-- A part of another set. -/
def subS (a b : Nat) : Prop := without a b = 0

theorem subS_iff {a b : Nat} : subS a b ↔ ∀ i, a.testBit i = true → b.testBit i = true := by
  unfold subS
  constructor
  · intro h i hi
    have := testBit_without a b i
    rw [h] at this
    cases hb : b.testBit i with
    | true => rfl
    | false => rw [hi, hb] at this; simp at this
  · intro h
    apply Nat.eq_of_testBit_eq
    intro i
    rw [testBit_without]
    cases ha : a.testBit i with
    | false => simp
    | true => rw [h i ha]; simp

theorem subS_refl (a : Nat) : subS a a := subS_iff.2 fun _ h => h

theorem subS_trans {a b c : Nat} (h1 : subS a b) (h2 : subS b c) : subS a c := subS_iff.2 fun i h => subS_iff.1 h2 i (subS_iff.1 h1 i h)

theorem subS_pop {a b : Nat} (hb : b < 1024) (h : subS a b) (hne : a ≠ b) : pop a < pop b := by
  have h' := subS_iff.1 h
  obtain ⟨i, hi⟩ : ∃ i, a.testBit i ≠ b.testBit i := Classical.byContradiction fun hc => hne (Nat.eq_of_testBit_eq fun i => Classical.byContradiction fun hh => hc ⟨i, hh⟩)
  have hai : a.testBit i = false := by
    cases ha : a.testBit i with
    | false => rfl
    | true => rw [ha, h' i ha] at hi; exact absurd rfl hi
  have hbi : b.testBit i = true := by
    cases hb : b.testBit i with
    | true => rfl
    | false => rw [hai, hb] at hi; exact absurd rfl hi
  exact pop_lt hb h' hbi hai

/-- The greatest ones of those with a property. -/
def Mx (n : Nat) (c : Nat → Bool) (S : Nat) : Prop := S < 2 ^ n ∧ c S = true ∧ ∀ x, x < 2 ^ n → c x = true → subS S x → x = S

theorem mx_above {n : Nat} (hn : n ≤ 10) {c : Nat → Bool} : ∀ (d S : Nat), pop S + d = 10 → S < 2 ^ n → c S = true → ∃ y, Mx n c y ∧ subS S y := by
  have hp : 2 ^ n ≤ 1024 := Nat.pow_le_pow_right (n := 2) (by omega) hn
  intro d
  induction d using Nat.strongRecOn with
  | _ d ih =>
    intro S hd hS hc
    by_cases hm : ∀ x, x < 2 ^ n → c x = true → subS S x → x = S
    · exact ⟨S, ⟨hS, hc, hm⟩, subS_refl S⟩
    · obtain ⟨x, hx⟩ := Classical.not_forall.1 hm
      obtain ⟨hx1, hx⟩ := Classical.not_imp.1 hx
      obtain ⟨hx2, hx⟩ := Classical.not_imp.1 hx
      obtain ⟨hx3, hx4⟩ := Classical.not_imp.1 hx
      have h1 := subS_pop (by omega) hx3 (fun e => hx4 e.symm)
      have h2 := pop_le_n (Nat.le_refl 10) (show x < 2 ^ 10 by omega)
      obtain ⟨y, hy1, hy2⟩ := ih (10 - pop x) (by omega) x (by omega) hx1 hx2
      exact ⟨y, hy1, subS_trans hx3 hy2⟩

theorem pop_two (v : Nat) (hv : v < 10) : pop (2 ^ v) = 1 := by
  have : ∀ v, v < 10 → pop (2 ^ v) = 1 := by decide
  exact this v hv

theorem low_two (v : Nat) (hv : v < 10) : low (2 ^ v) = v := by
  have : ∀ v, v < 10 → low (2 ^ v) = v := by decide
  exact this v hv

theorem pop_zero' {S : Nat} (hS : S < 1024) (h : pop S = 0) : S = 0 := by
  refine Classical.byContradiction fun hc => ?_
  have := (elts_next (Nat.pos_of_ne_zero hc) hS).1
  have h1 := elts_len S
  rw [this, h] at h1
  simp at h1

theorem pop_one {S : Nat} (hS : S < 1024) (h : pop S = 1) : S = 2 ^ low S := by
  have h0 : 0 < S := by
    refine Nat.pos_of_ne_zero fun e => ?_
    subst e
    revert h; decide
  have h1 := elts_len S
  have h2 := (elts_next h0 hS).1
  have h3 : elts (S &&& (S - 1)) = [] := by
    rw [h2, h] at h1
    simpa using h1
  refine Nat.eq_of_testBit_eq fun i => ?_
  rw [Bool.eq_iff_iff, ← mem_elts hS, h2, h3, Nat.testBit_two_pow]
  simp [eq_comm]

/-- The blocks, in order. -/
theorem mem_blocks {g : List Nat} {S : Nat} : S ∈ blocksP g ↔ Mx g.length (candQ g) S := by
  unfold blocksP Mx
  rw [List.mem_filter, mem_cands]
  simp only [Bool.not_eq_true', List.any_eq_false, mem_cands]
  constructor
  · rintro ⟨⟨h1, h2, h3⟩, h4⟩
    refine ⟨h2, h3, fun x hx hcx hsub => ?_⟩
    refine Classical.byContradiction fun hne => ?_
    refine h4 x ⟨?_, hx, hcx⟩ ?_
    · refine Nat.pos_of_ne_zero fun e => ?_
      subst e
      revert hcx
      unfold candQ loneQ cand2
      simp [show pop 0 = 0 by decide]
    · unfold overQ
      rw [decide_eq_true hne, decide_eq_true (show without S x = 0 from hsub)]
      rfl
  · rintro ⟨h1, h2, h3⟩
    refine ⟨⟨?_, h1, h2⟩, fun x ⟨_, hx, hcx⟩ ho => ?_⟩
    · refine Nat.pos_of_ne_zero fun e => ?_
      subst e
      revert h2
      unfold candQ loneQ cand2
      simp [show pop 0 = 0 by decide]
    · unfold overQ at ho
      simp only [Bool.and_eq_true, decide_eq_true_iff] at ho
      exact ho.1 (h3 x hx hcx ho.2)

end Go.AM

end

section

/- Blocks, the walk of the document's search. -/
namespace Go.AM
open Go.Proofs
variable {R : Type}
attribute [local simp] nx_eq nx_new nx_set blk_new blk_set asI_int asK_int asB_bool asP_ptr al_eq bx_eq len_slice onE_exit onE_ret onR_ret Value.cells d3 d22 d23 d83 d72 w3 w83 cell_new cell_set rd_new rd_set off eq lt le ifB gv out ext20 ext21
theorem s10 {v : Value} {g : List Nat} {h : H} (hg : GrN g) (hval : validG (g.map Int.ofNat) = true) (hs : SlR h 3 1 v (cellsN g)) :
    ∃ v' h', rn 10 #[v] h = some (.tuple #[v', iv 0], h') ∧ Exw h h' ∧ SlR h' 3 1 v' (cellsN (blocksP g)) := by
  have c63 := fun (K : Value → H → Option (Value × H)) => calls_eq (K := K) (xs := [v]) (s36 (l := g.map Int.ofNat) (h := h) (by rw [cellsN_eq]; exact hs))
  rw [if_pos hval] at c63
  obtain ⟨v', h1, e37, x1, hs1⟩ := s37 hg.toGrB hs
  have c90 := fun (K : Value → H → Option (Value × H)) => calls_eq (K := K) (xs := [v]) e37
  obtain ⟨h2, e2, m2, w2⟩ := x10 (k := 0) (v0 := v) (h := h) (h1 := h1) (v := .tuple #[v', iv 0]) (by
    simp [f10, c63, c90]) hs1.notR2
  exact ⟨v', h2, e2, w2 x1.toExt, hs1.ext m2.ext⟩

end Go.AM

end

section

/- PLAIN: connected sets, sets without cut nodes, how many ends of edges there are. -/
namespace Go.AM
open Go.Proofs
/-! ### Reaching -/
theorem Rch.trans {g : List Nat} {W a b c : Nat} (h1 : Rch g W a b) (h2 : Rch g W b c) : Rch g W a c := by
  induction h2 with
  | base => exact h1
  | step _ hab hb ih => exact .step ih hab hb

theorem Rch.mem {g : List Nat} {W a b : Nat} (h : Rch g W a b) (ha : W.testBit a = true) : W.testBit b = true := by
  cases h with
  | base => exact ha
  | step _ _ hb => exact hb

theorem Rch.one {g : List Nat} {W a b : Nat} (h : adj g a b = true) (hb : W.testBit b = true) : Rch g W a b := .step .base h hb

theorem Rch.sym {g : List Nat} (hs : ∀ a b, adj g a b = adj g b a) {W a b : Nat} (h : Rch g W a b) (ha : W.testBit a = true) : Rch g W b a := by
  induction h with
  | base => exact .base
  | @step x y hx hxy hy ih => exact (Rch.one (by rw [hs]; exact hxy) (hx.mem ha)).trans ih

theorem Rch.mono {g : List Nat} {W W' a b : Nat} (h : Rch g W a b) (hs : ∀ i, W.testBit i = true → W'.testBit i = true) : Rch g W' a b := by
  induction h with
  | base => exact .base
  | step _ hab hb ih => exact .step ih hab (hs _ hb)

/-- A set all of whose nodes reach each other within it. -/
def Conn (g : List Nat) (S : Nat) : Prop := ∀ a b, S.testBit a = true → S.testBit b = true → Rch g S a b

theorem conn_iff {g : List Nat} (hg : GrN g) {S : Nat} (hS : S < 2 ^ g.length) : connS g S = true ↔ Conn g S := by
  have hpow := hg.pow
  have hlen := hg.len
  have hS' : S < 1024 := by omega
  unfold connS
  by_cases h0 : S = 0
  · subst h0
    simp only [decide_true, Bool.true_or, true_iff]
    intro a b ha
    simp at ha
  · have hl := low_lt hg.toGrB hS h0
    have hlb := low_bit (Nat.pos_of_ne_zero h0) hS'
    rw [decide_eq_false h0, Bool.false_or, decide_eq_true_iff]
    constructor
    · intro h a b ha hb
      have h1 : ∀ i, S.testBit i = true → Rch g S (low S) i := fun i hi => (rch_bit (by omega) hS').1 (by rw [h]; exact hi)
      exact ((h1 a ha).sym hg.sym hlb).trans (h1 b hb)
    · intro h
      refine (rch_eq (by omega) hS' hS' hlb (fun u hu => h _ _ hlb hu) fun a b _ _ hb => hb).symm

/-- A set of which any node may be taken away. -/
def Bi (g : List Nat) (S : Nat) : Prop := ∀ w, Conn g (without S (2 ^ w))

theorem bit_del {S w i : Nat} : (without S (2 ^ w)).testBit i = true ↔ S.testBit i = true ∧ i ≠ w := by
  rw [testBit_without, Nat.testBit_two_pow, Bool.and_eq_true, Bool.not_eq_true', decide_eq_false_iff_not]
  exact ⟨fun h => ⟨h.1, fun e => h.2 e.symm⟩, fun h => ⟨h.1, fun e => h.2 e.symm⟩⟩

theorem del_none {S w : Nat} (h : S.testBit w = false) : without S (2 ^ w) = S := by
  refine Nat.eq_of_testBit_eq fun i => ?_
  rw [Bool.eq_iff_iff, bit_del]
  exact ⟨And.left, fun hi => ⟨hi, fun e => by subst e; rw [h] at hi; cases hi⟩⟩

theorem Bi.conn {g : List Nat} {S : Nat} (hS : S < 1024) (h : Bi g S) : Conn g S := by
  have := h 10
  rwa [del_none (big_bit (n := 10) hS (Nat.le_refl _))] at this

theorem cand2_iff {g : List Nat} (hg : GrN g) {S : Nat} (hS : S < 2 ^ g.length) : cand2 g S = true ↔ 1 < pop S ∧ Bi g S := by
  have hpow := hg.pow
  have hlen := hg.len
  have hS' : S < 1024 := by omega
  unfold cand2
  simp only [Bool.and_eq_true, decide_eq_true_iff]
  have hrch : Conn g S → ∀ v, S.testBit v = true → rch g S v = S := fun hc v hv =>
    (rch_eq (by have := bit_lt hS hv; omega) hS' hS' hv (fun u hu => hc _ _ hv hu) fun a b _ _ hb => hb).symm
  have hcut : Conn g S → (cutsP g S = 0 ↔ ∀ v, S.testBit v = true → Conn g (without S (2 ^ v))) := by
    intro hc
    constructor
    · intro h v hv
      have h1 : ¬ (cutsP g S).testBit v = true := by rw [h]; simp
      rw [cutsP_bit hS'] at h1
      have h2 : cutQ g S v = false := by
        cases hq : cutQ g S v with
        | false => rfl
        | true => exact absurd ⟨hv, hq⟩ h1
      unfold cutQ at h2
      rw [hrch hc v hv, Bool.not_eq_false'] at h2
      exact (conn_iff hg (without_le _ _ hS)).1 h2
    · intro h
      refine Nat.eq_of_testBit_eq fun v => ?_
      rw [Nat.zero_testBit, Bool.eq_false_iff]
      intro hb
      obtain ⟨hv, hq⟩ := (cutsP_bit hS').1 hb
      unfold cutQ at hq
      rw [hrch hc v hv, (conn_iff hg (without_le _ _ hS)).2 (h v hv)] at hq
      cases hq
  constructor
  · rintro ⟨⟨h1, h2⟩, h3⟩
    have hc := (conn_iff hg hS).1 h2
    refine ⟨h1, fun w => ?_⟩
    cases hw : S.testBit w with
    | false => rw [del_none hw]; exact hc
    | true => exact (hcut hc).1 h3 w hw
  · rintro ⟨h1, h2⟩
    have hc := h2.conn hS'
    exact ⟨⟨h1, (conn_iff hg hS).2 hc⟩, (hcut hc).2 fun v _ => h2 v⟩

/-! ### Ends of edges -/
theorem elts_n {b n : Nat} (hn : n ≤ 10) (hb : b < 2 ^ n) : elts b = (List.range n).filter fun i => b.testBit i := by
  unfold elts
  rw [show 10 = n + (10 - n) by omega, List.range_add, List.filter_append]
  have : (((List.range (10 - n)).map (n + ·)).filter fun i => b.testBit i) = [] := by
    rw [List.filter_eq_nil_iff]
    intro x hx
    obtain ⟨y, _, rfl⟩ := List.mem_map.1 hx
    rw [big_bit hb (by omega)]
    simp
  rw [this, List.append_nil]

/-- A node more than some few. -/
theorem exists_other {S a b : Nat} (hS : S < 1024) (h : 2 < pop S) : ∃ c, S.testBit c = true ∧ c ≠ a ∧ c ≠ b := by
  refine Classical.byContradiction fun hc => ?_
  have hall : ∀ c, S.testBit c = true → c = a ∨ c = b := fun c hcb => Classical.byContradiction fun hh => hc ⟨c, hcb, fun e => hh (.inl e), fun e => hh (.inr e)⟩
  have hlen := elts_len S
  have hnd := elts_nodup S
  have hm : ∀ c ∈ elts S, c = a ∨ c = b := fun c h => hall c ((mem_elts hS).1 h)
  rw [← hlen] at h
  match hE : elts S with
  | [] => rw [hE] at h; simp at h
  | [x] => rw [hE] at h; simp at h
  | [x, y] => rw [hE] at h; simp at h
  | x :: y :: z :: l =>
    rw [hE] at hm hnd
    have h1 := hm x (by simp)
    have h2 := hm y (by simp)
    have h3 := hm z (by simp)
    simp only [List.nodup_cons, List.mem_cons, not_or] at hnd
    omega

theorem exists_other1 {S a : Nat} (hS : S < 1024) (h : 1 < pop S) : ∃ c, S.testBit c = true ∧ c ≠ a := by
  refine Classical.byContradiction fun hc => ?_
  have hall : ∀ c, S.testBit c = true → c = a := fun c hcb => Classical.byContradiction fun hh => hc ⟨c, hcb, hh⟩
  have hlen := elts_len S
  have hnd := elts_nodup S
  have hm : ∀ c ∈ elts S, c = a := fun c h => hall c ((mem_elts hS).1 h)
  rw [← hlen] at h
  match hE : elts S with
  | [] => rw [hE] at h; simp at h
  | [x] => rw [hE] at h; simp at h
  | x :: y :: l =>
    rw [hE] at hm hnd
    have h1 := hm x (by simp)
    have h2 := hm y (by simp)
    simp only [List.nodup_cons, List.mem_cons, not_or] at hnd
    omega

/-- Who reaches another node has a neighbour. -/
theorem Rch.next {g : List Nat} {W a b : Nat} (h : Rch g W a b) (hne : b ≠ a) : ∃ u, adj g a u = true ∧ W.testBit u = true ∧ Rch g W u b := by
  induction h with
  | base => exact absurd rfl hne
  | @step x y hx hxy hy ih =>
    by_cases hxa : x = a
    · subst hxa
      exact ⟨y, hxy, hy, .base⟩
    · obtain ⟨u, h1, h2, h3⟩ := ih hxa
      exact ⟨u, h1, h2, .step h3 hxy hy⟩

/-- In a set of more than two without cut nodes everyone has two neighbours. -/
theorem deg_two {g : List Nat} {S v : Nat} (hS : S < 1024) (hp : 2 < pop S) (hb : Bi g S) (hirr : ∀ a, adj g a a = false) (hv : S.testBit v = true) : 2 ≤ (elts S).countP (adj g v) := by
  obtain ⟨c, hc1, hc2⟩ := exists_other1 (a := v) hS (by omega)
  obtain ⟨u, hu1, hu2, _⟩ := (hb.conn hS v c hv hc1).next hc2
  have huv : u ≠ v := by rintro rfl; rw [hirr] at hu1; cases hu1
  obtain ⟨d, hd1, hd2, hd3⟩ := exists_other (a := v) (b := u) hS hp
  obtain ⟨x, hx1, hx2, _⟩ := (hb u v d (bit_del.2 ⟨hv, fun e => huv e.symm⟩) (bit_del.2 ⟨hd1, hd3⟩)).next hd2
  obtain ⟨hx3, hx4⟩ := bit_del.1 hx2
  have hmu : u ∈ (elts S).filter (adj g v) := List.mem_filter.2 ⟨(mem_elts hS).2 hu2, hu1⟩
  have hmx : x ∈ (elts S).filter (adj g v) := List.mem_filter.2 ⟨(mem_elts hS).2 hx3, hx1⟩
  rw [List.countP_eq_length_filter]
  match hE : (elts S).filter (adj g v) with
  | [] => rw [hE] at hmu; cases hmu
  | [y] =>
    rw [hE] at hmu hmx
    simp at hmu hmx
    omega
  | y :: z :: l => simp

/-! ### Cactus -/
end Go.AM

end

section

/- The width of a graph, as the program finds it. -/
namespace Go.AM
open Go.Proofs
variable {k : Nat} {R : Type}
attribute [local simp] nx_eq nx_new nx_set blk_new blk_set asI_int asK_int asB_bool asP_ptr al_eq bx_eq len_slice onE_exit onE_ret onR_ret Value.cells d3 d22 d23 cell_new cell_set rd_new rd_set off eq lt le ifB gv out
theorem s108 {S : Nat} (hS : S < 1024) (h : H) : ∃ v' h', rn 108 #[iv S] h = some (v', h') ∧ Exw h h' ∧ SlR h' 3 1 v' (cellsN (elts S)) ∧ ∀ q, AM.blkOf v' = some q → h.nx ≤ q := by
  obtain ⟨e, ws', h', hl, rfl, xg, v, w, hap, rfl⟩ := lpGo_inv (F := f108_l1 rn 2000)
    (fun d ws g => Ext h g ∧ ∃ (v : Value) (x : Nat) (L : List Nat), ws = [v, iv x] ∧ d = x ∧ x < 1024 ∧ L ++ elts x = elts S ∧ AqR h.nx g 3 1 v (cellsN L))
    (fun e ws g => e = .exit 0 ∧ Ext h g ∧ ∃ v w, AqR h.nx g 3 1 v (cellsN (elts S)) ∧ ws = [v, w])
    (by
      rintro d ws g ⟨xg, v, x, L, rfl, rfl, hx, hL, hap⟩
      by_cases hx0 : d = 0
      · subst hx0
        rw [elts_zero, List.append_nil] at hL
        subst hL
        exact ⟨.exit 0, [v, iv 0], _, by simp [f108_l1], .inr ⟨by simp, rfl, xg, v, iv 0, hap, rfl⟩⟩
      · have h0 : 0 < d := Nat.pos_of_ne_zero hx0
        obtain ⟨h1, h2⟩ := elts_next h0 hx
        have c89 := fun (K : Value → H → Option (Ex × List Value × H)) => calls_eq (K := K) (xs := [.int .u64 d]) (s79 h0 hx g)
        have hsub : sub .i64 (d : Int) 1 = ((d - 1 : Nat) : Int) := by rw [sub64 (by omega) (by omega)]; omega
        have hand : AM.and .i64 (d : Int) ((d - 1 : Nat) : Int) = ((d &&& (d - 1) : Nat) : Int) := and_nat (by omega) (by omega)
        have hLl : L.length ≤ 10 := by
          have h3 := congrArg List.length hL
          rw [List.length_append, elts_len S] at h3
          have := pop_le_n (Nat.le_refl 10) hS
          omega
        obtain ⟨v', g2, e2, a2, n2, k2, b2, hb2, hb2'⟩ := hap.push app22 app22 (bls22 (low d : Int)) rfl rfl (by simp; omega) xg.nx
        have ee : ∀ (K : Value → H → Option (Ex × List Value × H)), (bls Tryd.prog g 22 1 [(0, iv (low d : Nat))] fun y h2 => app Tryd.prog h2 22 22 v y K) = K v' g2 := fun K => e2 K
        refine ⟨.normal, [v', iv (d &&& (d - 1) : Nat)], g2, ?_, .inl ⟨rfl, d &&& (d - 1), h2, ⟨by have := xg.nx; omega, fun b hb => ?_⟩, v', d &&& (d - 1), L ++ [low d], rfl, rfl, by omega, ?_, ?_⟩⟩
        · unfold f108_l1
          rw [show AM.gv [v, iv d] 1 = iv d from rfl, show AM.gv [v, iv d] 0 = v from rfl, asI_int, show AM.eq (d : Int) 0 = false by simp; omega, show (!false) = true from rfl, ifB_true, asI_int, wr64u hx, c89, asI_int, ee, asI_int, asI_int, hsub, hand]
          rfl
        · rw [k2 b (by have := xg.nx; omega) (fun e => by have := (hap.blkOf e).1; omega)]
          exact xg.blk b hb
        · rw [← hL, h1]; simp
        · have : cellsN (L ++ [low d]) = cellsN L ++ [[iv (low d : Int)]] := by simp
          rw [this]; exact a2)
    S 2000 (by omega) ⟨.refl _, .slice none 0 0, S, [], rfl, rfl, hS, rfl, .nil⟩
  obtain ⟨h2, e2, m2, w2⟩ := x108 (k := 2000) (n0 := S) (h := h) (h1 := h') (v := v) (by
    unfold f108
    exact (lp_eq hl).trans rfl) (by obtain ⟨x, y, z, hz⟩ := hap.isSl; rw [hz]; rfl)
  exact ⟨v, h2, e2, w2 xg, hap.slR.ext m2.ext, fun q hq => (hap.blkOf hq).1⟩

theorem s39 {v : Value} {l : List Int} {h : H} (hs : SlR h 3 1 v (cellsI l)) (h9 : l.length ≤ 9) : rn 39 #[v] h = some (if validG l = true then .tuple #[v, .bool true] else .tuple #[.slice none 0 0, .bool false], h) := by
  have hn : ∀ {T : Type} (K : Int → Option T), len v K = K (l.length : Int) := fun K => by rw [hs.len]; simp
  by_cases hl : 1 ≤ l.length ∧ l.length ≤ 10
  · have hni : ∀ i : Nat, nn (i : Int) = fun (z : Option (Ex × List Value × H)) => z := fun i => by funext z; exact nn_ge (by omega) z
    have hb : ∀ a b : Int, AM.and .i64 (shr .i64 a b) 1 = bitI a b := fun _ _ => rfl
    have inner := fun (i : Nat) (x : Int) (_ : l[i]? = some x) => lp_all (F := f39_l2 rn 200010 v l.length [.slice none 0 0, .bool false, iv i] x) (k := 200010) (l := l) (h := h) (fun j => [.slice none 0 0, .bool false, iv j])
      (fun j y => decide (bitI x j = bitI y i)) (fun j => [.slice none 0 0, .bool false, iv j]) 2 [.slice none 0 0, .bool false, iv l.length] (ws := [.slice none 0 0, .bool false, iv 0]) rfl (by omega)
      (by simp [f39_l2])
      (by
        intro j y hy
        have hj := (List.getElem?_eq_some_iff.1 hy).1
        have hadd : add .i64 (j : Int) 1 = (j : Int) + 1 := add64 (by omega) (by omega)
        have e1 := fun (K : Value → Option (Ex × List Value × H)) => getL hs hy K
        by_cases hq : bitI x j = bitI y i
        · simp [f39_l2, hj, hni, e1, hb, hq, hadd]
        · simp [f39_l2, hj, hni, e1, hb, hq])
    have hlp := lp_all (F := f39_l1 rn 200010 v l.length l.length) (k := 200010) (l := l) (h := h) (fun i => [.slice none 0 0, .bool false, iv i])
      (fun i x => rowOk l i x) (fun i => [.slice none 0 0, .bool false, iv i]) 0 [.slice none 0 0, .bool false, iv l.length] (ws := [.slice none 0 0, .bool false, iv 0]) rfl (by omega)
      (by simp [f39_l1])
      (by
        intro i x hx
        have hi := (List.getElem?_eq_some_iff.1 hx).1
        have hadd : add .i64 (i : Int) 1 = (i : Int) + 1 := add64 (by omega) (by omega)
        have e1 := fun (K : Value → Option (Ex × List Value × H)) => getL hs hx K
        have hall : rowOk l i x = (!decide (x < 0) && !decide (AM.shl .i64 1 (l.length : Int) ≤ x) && !decide (bitI x i = 1) && (List.range l.length).all fun j => decide (bitI x j = bitI (l.getD j 0) i)) := rfl
        by_cases h1 : x < 0
        · have : rowOk l i x = false := by rw [hall, decide_eq_true h1]; rfl
          simp [f39_l1, hi, e1, h1, this]
        · by_cases h2 : AM.shl .i64 1 (l.length : Int) ≤ x
          · have : rowOk l i x = false := by rw [hall, decide_eq_true h2]; simp
            simp [f39_l1, hi, e1, h1, hni, h2, this]
          · by_cases h3 : bitI x i = 1
            · have : rowOk l i x = false := by rw [hall, decide_eq_true h3]; simp
              simp [f39_l1, hi, e1, h1, hni, h2, hb, h3, this]
            · rcases inner i x hx with ⟨j, y, hy, q2, _, q1⟩ | ⟨q2, q1⟩
              · have : rowOk l i x = false := by
                  have : ((List.range l.length).all fun j => decide (bitI x j = bitI (l.getD j 0) i)) = false := by
                    rw [List.all_eq_false]
                    refine ⟨j, List.mem_range.2 (List.getElem?_eq_some_iff.1 hy).1, ?_⟩
                    rw [show l.getD j 0 = y by simp [List.getD, hy], q2]; simp
                  rw [hall, this]; simp
                have hlq := fun (K : Ex → List Value → H → Option (Ex × List Value × H)) => lp_eq (K := K) q1
                simp [f39_l1, hi, e1, h1, hni, h2, hb, h3, this, hlq]
              · have : rowOk l i x = true := by
                  have : ((List.range l.length).all fun j => decide (bitI x j = bitI (l.getD j 0) i)) = true := by
                    rw [List.all_eq_true]
                    intro j hj
                    have hj := List.mem_range.1 hj
                    have := q2 j _ (List.getElem?_eq_getElem hj)
                    simpa [List.getD, List.getElem?_eq_getElem hj] using this
                  rw [hall, this, decide_eq_false h1, decide_eq_false h2, decide_eq_false h3]; rfl
                have hlq := fun (K : Ex → List Value → H → Option (Ex × List Value × H)) => lp_eq (K := K) q1
                simp [f39_l1, hi, e1, h1, hni, h2, hb, h3, this, hlq, hadd])
    have hle1 : ¬ (l.length : Int) < 1 := by omega
    have hle2 : ¬ (9 : Int) < (l.length : Int) := by omega
    rcases hlp with ⟨j, y, hy, q2, _, q1⟩ | ⟨q2, q1⟩
    · have hv : validG l = false := by
        rw [Bool.eq_false_iff]
        intro hc
        have := (validG_iff hl).1 hc j y hy
        rw [this] at q2
        cases q2
      rw [hv]
      exact y39 (k := 200010) (by simp [f39, hn, hle1, hle2, lp_eq q1])
    · have hv : validG l = true := (validG_iff hl).2 q2
      rw [hv, if_pos rfl]
      exact y39 (k := 200010) (by simp [f39, hn, hle1, hle2, lp_eq q1])
  · have hv : validG l = false := by
      unfold validG
      rw [Bool.eq_false_iff]
      intro hc
      simp only [Bool.and_eq_true, decide_eq_true_iff] at hc
      exact hl hc.1
    rw [hv]
    refine y39 (k := 0) ?_
    simp [f39, hn]
    omega

theorem s117 {S : Nat} (hS : S < 1024) (h : H) : rn 117 #[iv S] h = some (iv (pop S : Nat), h) := by
  refine p117 (k := 0) (h1 := h) ?_ rfl (.refl _)
  unfold f117
  rw [wr64u hS, calls_eq (xs := [.int .u64 S]) (s64 hS h), asI_int]

/-- All neighbours of the nodes of a set. -/
def arN (g : List Nat) (S : Nat) : Nat := (elts S).foldl (fun s i => s ||| nb g i) 0

theorem arN_aux {g : List Nat} {u : Nat} : ∀ (L : List Nat) (s : Nat), (L.foldl (fun s i => s ||| nb g i) s).testBit u = true ↔ s.testBit u = true ∨ ∃ i ∈ L, adj g i u = true
  | [], s => by simp
  | i :: L, s => by
    rw [List.foldl_cons, arN_aux L, Nat.testBit_or, Bool.or_eq_true]
    constructor
    · rintro ((h | h) | ⟨j, hj, h⟩)
      · exact .inl h
      · exact .inr ⟨i, List.mem_cons_self, h⟩
      · exact .inr ⟨j, List.mem_cons_of_mem _ hj, h⟩
    · rintro (h | ⟨j, hj, h⟩)
      · exact .inl (.inl h)
      · rcases List.mem_cons.1 hj with rfl | hj
        · exact .inl (.inr h)
        · exact .inr ⟨j, hj, h⟩

theorem arN_bit {g : List Nat} {S u : Nat} (hS : S < 1024) : (arN g S).testBit u = true ↔ ∃ i, S.testBit i = true ∧ adj g i u = true := by
  unfold arN
  rw [arN_aux]
  simp only [Nat.zero_testBit, Bool.false_eq_true, false_or]
  exact ⟨fun ⟨i, hi, h⟩ => ⟨i, (mem_elts hS).1 hi, h⟩, fun ⟨i, hi, h⟩ => ⟨i, (mem_elts hS).2 hi, h⟩⟩

theorem arN_lt {g : List Nat} (hg : GrB g) (S : Nat) : arN g S < 2 ^ g.length := by
  have key : ∀ (L : List Nat) (s : Nat), s < 2 ^ g.length → L.foldl (fun s i => s ||| nb g i) s < 2 ^ g.length := by
    intro L
    induction L with
    | nil => intro s h; exact h
    | cons i L ih => intro s h; exact ih _ (Nat.or_lt_two_pow h (hg.nb_lt i))
  exact key _ _ (Nat.two_pow_pos _)

theorem s118 {tv : Value} {g : List Nat} {S : Nat} {h : H} (hg : GrB g) (hs : SlR h 3 1 tv (cellsN g)) (hS : S < 2 ^ g.length) : rn 118 #[tv, iv S] h = some (iv (arN g S : Nat), h) := by
  have hlen := hg.len
  have hpow := hg.pow
  have hS' : S < 1024 := Nat.lt_of_lt_of_le hS hpow
  obtain ⟨nv, h2, e108, x2w, hn, _⟩ := s108 hS' h
  have x2 := x2w.toExt
  have hpl : (elts S).length ≤ 10 := by rw [elts_len]; exact pop_le_n (Nat.le_refl 10) hS'
  have hnl : ∀ {T : Type} (K : Int → Option T), len nv K = K ((elts S).length : Int) := fun K => by rw [hn.len]; simp
  have hl := lp_same (σ := Nat) (ρ := Empty) (F := f118_l1 rn 2000 tv nv (elts S).length) (k := 2000) (l := elts S) (h := h2) (fun i s => [iv s, iv i])
    (fun _ i s => .inl (s ||| nb g i)) (fun _ s => s < 1024) (fun _ => .ret) (fun _ => []) 0 (fun s => [iv s, iv (elts S).length]) (ws := [iv 0, iv 0]) (s0 := 0) rfl (by decide) (by omega) (by simp)
    (fun _ _ => by simp [f118_l1])
    (by
      intro i x s hx hI
      have hi := (List.getElem?_eq_some_iff.1 hx).1
      have hxS := (mem_elts hS').1 (List.mem_of_getElem? hx)
      have hxl : x < g.length := bit_lt hS hxS
      have hnw : nb g x < 1024 := Nat.lt_of_lt_of_le (hg.nb_lt x) hpow
      refine ⟨fun s' hs' => by cases hs'; exact Nat.or_lt_two_pow (n := 10) hI hnw, ?_⟩
      have e1 : ∀ (K : Value → Option (Ex × List Value × H)), (six nv (i : Int) 1 fun b o => (h2.cell b o).bind K) = K (iv x) := fun K => hn.c0 (by omega) (x := [iv x]) (by simp [hx]) rfl K
      have e2 := fun (K : Value → Option (Ex × List Value × H)) => getN (hs.ext x2) hxl K
      have hor : AM.or .i64 (s : Int) ((nb g x : Nat) : Int) = ((s ||| nb g x : Nat) : Int) := or_nat (by omega) (by omega)
      have hadd : add .i64 (i : Int) 1 = (i : Int) + 1 := add64 (by omega) (by omega)
      simp [f118_l1, hi, e1, e2, hor, hadd, rnd])
  rw [itL_inl (fun _ i s => s ||| nb g i), foldI_foldl (fun i s => s ||| nb g i)] at hl
  refine p118 (k := 2000) (h1 := h2) ?_ rfl x2
  unfold f118
  rw [calls_eq (xs := [iv S]) e108, hnl]
  refine (lp_eq hl.1).trans ?_
  rw [onE_exit, if_pos rfl]
  rfl

theorem grow_ar {g : List Nat} (hg : GrB g) {W S : Nat} (hW : W < 2 ^ g.length) (hS : S < 2 ^ g.length) : S ||| (arN g S &&& W) = grow g W S := by
  have hpow := hg.pow
  have hS' : S < 1024 := Nat.lt_of_lt_of_le hS hpow
  have hW' : W < 1024 := Nat.lt_of_lt_of_le hW hpow
  refine Nat.eq_of_testBit_eq fun u => ?_
  rw [Bool.eq_iff_iff, grow_bit hS', Nat.testBit_or, Nat.testBit_and, Bool.or_eq_true, Bool.and_eq_true, arN_bit hS']
  constructor
  · rintro (h | ⟨⟨i, hi, h⟩, hw⟩)
    · exact .inl h
    · exact .inr ⟨i, hi, h, hw⟩
  · rintro (h | ⟨i, hi, h, hw⟩)
    · exact .inl h
    · exact .inr ⟨⟨i, hi, h⟩, hw⟩

theorem grow_ltn {g : List Nat} {W S : Nat} (hW : W < 2 ^ g.length) (hS : S < 2 ^ g.length) : grow g W S < 2 ^ g.length := by
  have key : ∀ (L : List Nat) (s : Nat), s < 2 ^ g.length → L.foldl (fun s i => s ||| (nb g i &&& W)) s < 2 ^ g.length := by
    intro L
    induction L with
    | nil => intro s h; exact h
    | cons i L ih => intro s h; exact ih _ (Nat.or_lt_two_pow h (Nat.and_lt_two_pow _ hW))
  exact key _ _ hS

/-- What a node reaches within a set. -/
theorem s119 {tv : Value} {g : List Nat} {W v : Nat} {h : H} (hg : GrB g) (hs : SlR h 3 1 tv (cellsN g)) (hv : v < g.length) (hW : W < 2 ^ g.length) : rn 119 #[tv, iv (2 ^ v : Nat), iv W] h = some (iv (rch g W v : Nat), h) := by
  have hlen := hg.len
  have hpow := hg.pow
  have hW' : W < 1024 := Nat.lt_of_lt_of_le hW hpow
  have h2v : 2 ^ v < 2 ^ g.length := Nat.pow_lt_pow_right (by omega) hv
  obtain ⟨e, ws', h', hl, rfl, rfl, w, rfl⟩ := lpGo_inv (F := f119_l1 rn 2000 tv W)
    (fun d ws h2 => h2 = h ∧ ∃ S : Nat, ws = [iv 0, iv S] ∧ S < 2 ^ g.length ∧ d + pop S = 10 ∧ S.testBit v = true ∧ ∀ u, S.testBit u = true → Rch g W v u)
    (fun e ws h2 => e = .ret ∧ h2 = h ∧ ∃ w, ws = [iv (rch g W v : Nat), w])
    (by
      rintro d ws h2 ⟨rfl, S, rfl, hS, hd, hSv, hSr⟩
      have hS' : S < 1024 := Nat.lt_of_lt_of_le hS hpow
      have har := arN_lt hg S
      have hand : AM.and .i64 (arN g S : Int) (W : Int) = ((arN g S &&& W : Nat) : Int) := and_nat (by omega) (by omega)
      have haw : arN g S &&& W < 1024 := Nat.and_lt_two_pow (n := 10) _ hW'
      have hor : AM.or .i64 (S : Int) ((arN g S &&& W : Nat) : Int) = ((grow g W S : Nat) : Int) := by rw [or_nat (by omega) (by omega), grow_ar hg hW hS]
      have start : f119_l1 rn 2000 tv W [iv 0, iv S] h2 = if grow g W S = S then some (.ret, [iv S, iv S], h2) else some (.normal, [iv 0, iv (grow g W S : Nat)], h2) := by
        unfold f119_l1
        rw [show AM.gv [iv 0, iv S] 1 = iv S from rfl, show AM.gv [iv 0, iv S] 0 = iv 0 from rfl, calls_eq (xs := [tv, iv S]) (s118 hg hs hS), asI_int, asI_int, asI_int, hand, hor]
        by_cases hq : grow g W S = S
        · rw [if_pos hq, hq, show AM.eq (S : Int) (S : Int) = true by simp, ifB_true]; rfl
        · rw [if_neg hq, show AM.eq (grow g W S : Int) (S : Int) = false by simp; omega, ifB_false]; rfl
      rw [start]
      by_cases hq : grow g W S = S
      · rw [if_pos hq]
        refine ⟨_, _, _, rfl, .inr ⟨by simp, rfl, rfl, iv S, ?_⟩⟩
        rw [rch_eq (g := g) (W := W) (v := v) (by omega) hW' hS' hSv hSr fun a b ha hab hb => by
          rw [← hq, grow_bit hS']
          exact .inr ⟨a, ha, hab, hb⟩]
      · rw [if_neg hq]
        have hsub : ∀ u, S.testBit u = true → (grow g W S).testBit u = true := fun u hu => (grow_bit hS').2 (.inl hu)
        have hglt := grow_ltn hW hS
        obtain ⟨i, hi⟩ : ∃ i, (grow g W S).testBit i ≠ S.testBit i := by
          refine Classical.byContradiction fun hc => hq (Nat.eq_of_testBit_eq fun i => Classical.byContradiction fun h => hc ⟨i, h⟩)
        have hSi : S.testBit i = false := by
          cases hh : S.testBit i with
          | false => rfl
          | true => rw [hh, hsub i hh] at hi; exact absurd rfl hi
        have hGi : (grow g W S).testBit i = true := by
          cases hh : (grow g W S).testBit i with
          | true => rfl
          | false => rw [hh, hSi] at hi; exact absurd rfl hi
        have hp := pop_lt (Nat.lt_of_lt_of_le hglt hpow) hsub hGi hSi
        have hp2 := pop_le_n (Nat.le_refl 10) (Nat.lt_of_lt_of_le hglt hpow)
        refine ⟨_, _, _, rfl, .inl ⟨rfl, 10 - pop (grow g W S), by omega, rfl, grow g W S, rfl, hglt, by omega, hsub v hSv, fun u hu => ?_⟩⟩
        rcases (grow_bit hS').1 hu with h | ⟨a, ha, hab, hb⟩
        · exact hSr u h
        · exact .step (hSr a ha) hab hb)
    (10 - pop (2 ^ v)) 2000 (by omega) (ws := [iv 0, iv (2 ^ v : Nat)]) (h := h) ⟨rfl, 2 ^ v, rfl, h2v, by
      have := pop_le_n (Nat.le_refl 10) (show 2 ^ v < 2 ^ 10 from Nat.pow_lt_pow_right (by omega) (by omega))
      omega, by simp [Nat.testBit_two_pow], fun u hu => by
      rw [Nat.testBit_two_pow] at hu
      have : v = u := by simpa using hu
      subst this
      exact .base⟩
  refine p119 (k := 2000) ?_ rfl (.refl _)
  unfold f119
  refine (lp_eq hl).trans ?_
  rw [onR_ret]
  rfl

/-- How many neighbours a node has when a set is gone. -/
noncomputable def degN (g : List Nat) (v gone : Nat) : Nat := pop (without (without (arN g (rch g (gone ||| 2 ^ v) v)) gone) (2 ^ v))

theorem without_lt {a b n : Nat} (ha : a < 2 ^ n) : without a b < 2 ^ n := by
  refine Nat.lt_pow_two_of_testBit _ fun i hi => ?_
  rw [testBit_without, Nat.testBit_lt_two_pow (Nat.lt_of_lt_of_le ha (Nat.pow_le_pow_right (by omega) hi))]
  rfl

theorem rch_ltw {g : List Nat} {W v : Nat} (hg : GrB g) (hv : v < g.length) (hW : W < 2 ^ g.length) : rch g W v < 2 ^ g.length := by
  have hlen := hg.len
  have hW' : W < 1024 := Nat.lt_of_lt_of_le hW hg.pow
  refine Nat.lt_pow_two_of_testBit _ fun i hi => ?_
  rw [Bool.eq_false_iff]
  intro h
  have := (rch_bit (by omega) hW').1 h
  cases this with
  | base => omega
  | step _ _ hb => exact absurd (bit_lt hW hb) (by omega)

theorem s109 {tv : Value} {g : List Nat} {v gone : Nat} {h : H} (hg : GrB g) (hs : SlR h 3 1 tv (cellsN g)) (hv : v < g.length) (hgo : gone < 2 ^ g.length) : rn 109 #[tv, iv v, iv gone] h = some (iv (degN g v gone : Nat), h) := by
  have hlen := hg.len
  have hpow := hg.pow
  have h2v : 2 ^ v < 2 ^ g.length := Nat.pow_lt_pow_right (by omega) hv
  have hor : AM.or .i64 (gone : Int) ((2 ^ v : Nat) : Int) = ((gone ||| 2 ^ v : Nat) : Int) := or_nat (by omega) (by omega)
  have hW : gone ||| 2 ^ v < 2 ^ g.length := Nat.or_lt_two_pow hgo h2v
  have hr := rch_ltw hg hv hW
  have har := arN_lt hg (rch g (gone ||| 2 ^ v) v)
  have hw1 := without_lt (b := gone) har
  have hw2 := without_lt (b := 2 ^ v) hw1
  have ha1 : AM.andNot .i64 (arN g (rch g (gone ||| 2 ^ v) v) : Int) (gone : Int) = ((without (arN g (rch g (gone ||| 2 ^ v) v)) gone : Nat) : Int) := andNot_nat (by omega) (by omega)
  have ha2 : AM.andNot .i64 ((without (arN g (rch g (gone ||| 2 ^ v) v)) gone : Nat) : Int) ((2 ^ v : Nat) : Int) = ((without (without (arN g (rch g (gone ||| 2 ^ v) v)) gone) (2 ^ v) : Nat) : Int) := andNot_nat (by omega) (by omega)
  refine p109 (k := 0) (h1 := h) ?_ rfl (.refl _)
  unfold f109
  rw [nn_ge (by omega), nn_ge (by omega), shl1_nat (by omega), hor, calls_eq (xs := [_, _, _]) (s119 hg hs hv hW), asI_int, calls_eq (xs := [_, _]) (s118 hg hs hr), asI_int, nn_ge (by omega), ha1, ha2, calls_eq (xs := [_]) (s117 (Nat.lt_of_lt_of_le hw2 hpow) h), asI_int]
  rfl

theorem s85 {tv : Value} {g : List Nat} {h : H} (hg : GrB g) (hs : SlR h 3 1 tv (cellsN g)) : rn 85 #[tv] h = some (iv (allN g : Nat), h) := by
  have hlen := hg.len
  refine p85 (k := 0) (h1 := h) ?_ rfl (.refl _)
  unfold f85
  rw [hs.len, List.length_map, nn_ge (by omega), shl_all hlen]
  rfl

end Go.AM

end
