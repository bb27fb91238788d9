/- Parts of the proof, put together: what the functions of the program answer, and plain laws. -/
import Derived.Test.YtphchobmencipaaDoorAmSim
import Derived.Test.YtphchobmencipaaDoorProg
import Derived.KernelRfl
import Derived.Test.YtphchobmencipaaDoorAmIt

section

/- The seat's environment, what its types are, and calls in the end. -/
namespace Go.AM
open Go.Proofs
/-- The table by which the library finds the lowest bit. -/
def tab64 : List Int := [0, 1, 56, 2, 57, 49, 28, 3, 61, 58, 42, 50, 38, 29, 17, 4, 62, 47, 59, 36, 45, 43, 51, 22, 53, 39, 33, 30, 24, 18, 12, 5, 63, 55, 48, 27, 60, 41, 37, 16, 46, 35, 44, 21, 52, 32, 23, 11, 54, 26, 40, 15, 34, 20, 31, 10, 25, 14, 19, 9, 13, 8, 7, 6]

/-- Two package-level variables, of which one is read; the calls that are made by themselves. -/
def E0 : Env := ⟨2, fun g => if g = 1 then some (.row (tab64.map fun n => .int .u8 n) 5 false) else none, fun f => f == 9 || f == 15 || f == 24 || f == 104⟩

noncomputable abbrev rn : Rec := run Tryd.prog E0

variable {R : Type} {h : H} {b o : Nat} {v : Value}
theorem ag0 : aggT Tryd.prog 0 = some false := by kernel_rfl

theorem sz0 : size? Tryd.prog 0 = some 1 := by kernel_rfl

theorem d0 {K : Value → Option R} : ld Tryd.prog h 0 b o K = (h.cell b o).bind K := ld_scS ag0

theorem w0 {K : H → Option R} : st Tryd.prog h 0 b o v K = (wrc 1 h b o v).bind K := st_S sz0

theorem sz1 : size? Tryd.prog 1 = some 1 := by kernel_rfl

theorem w1 {K : H → Option R} : st Tryd.prog h 1 b o v K = (wrc 1 h b o v).bind K := st_S sz1

theorem sz2 : size? Tryd.prog 2 = some 1 := by kernel_rfl

theorem w2 {K : H → Option R} : st Tryd.prog h 2 b o v K = (wrc 1 h b o v).bind K := st_S sz2

theorem ag3 : aggT Tryd.prog 3 = some false := by kernel_rfl

theorem sz3 : size? Tryd.prog 3 = some 1 := by kernel_rfl

theorem d3 {K : Value → Option R} : ld Tryd.prog h 3 b o K = (h.cell b o).bind K := ld_scS ag3

theorem w3 {K : H → Option R} : st Tryd.prog h 3 b o v K = (wrc 1 h b o v).bind K := st_S sz3

theorem sz4 : size? Tryd.prog 4 = some 1 := by kernel_rfl

theorem w4 {K : H → Option R} : st Tryd.prog h 4 b o v K = (wrc 1 h b o v).bind K := st_S sz4

theorem sz5 : size? Tryd.prog 5 = some 1 := by kernel_rfl

theorem w5 {K : H → Option R} : st Tryd.prog h 5 b o v K = (wrc 1 h b o v).bind K := st_S sz5

theorem sz6 : size? Tryd.prog 6 = some 1 := by kernel_rfl

theorem w6 {K : H → Option R} : st Tryd.prog h 6 b o v K = (wrc 1 h b o v).bind K := st_S sz6

theorem sz10 : size? Tryd.prog 10 = some 1 := by kernel_rfl

theorem w10 {K : H → Option R} : st Tryd.prog h 10 b o v K = (wrc 1 h b o v).bind K := st_S sz10

theorem ag22 : aggT Tryd.prog 22 = some false := by kernel_rfl

theorem sz22 : size? Tryd.prog 22 = some 1 := by kernel_rfl

theorem d22 {K : Value → Option R} : ld Tryd.prog h 22 b o K = (h.cell b o).bind K := ld_scS ag22

theorem w22 {K : H → Option R} : st Tryd.prog h 22 b o v K = (wrc 1 h b o v).bind K := st_S sz22

theorem ag23 : aggT Tryd.prog 23 = some false := by kernel_rfl

theorem d23 {K : Value → Option R} : ld Tryd.prog h 23 b o K = (h.cell b o).bind K := ld_scS ag23

theorem sz25 : size? Tryd.prog 25 = some 1 := by kernel_rfl

theorem w25 {K : H → Option R} : st Tryd.prog h 25 b o v K = (wrc 1 h b o v).bind K := st_S sz25

theorem sz32 : size? Tryd.prog 32 = some 1 := by kernel_rfl

theorem w32 {K : H → Option R} : st Tryd.prog h 32 b o v K = (wrc 1 h b o v).bind K := st_S sz32

theorem ag61 : aggT Tryd.prog 61 = some false := by kernel_rfl

theorem sz61 : size? Tryd.prog 61 = some 1 := by kernel_rfl

theorem d61 {K : Value → Option R} : ld Tryd.prog h 61 b o K = (h.cell b o).bind K := ld_scS ag61

theorem w61 {K : H → Option R} : st Tryd.prog h 61 b o v K = (wrc 1 h b o v).bind K := st_S sz61

theorem ag66 : aggT Tryd.prog 66 = some false := by kernel_rfl

theorem ag72 : aggT Tryd.prog 72 = some false := by kernel_rfl

theorem sz72 : size? Tryd.prog 72 = some 1 := by kernel_rfl

theorem d72 {K : Value → Option R} : ld Tryd.prog h 72 b o K = (h.cell b o).bind K := ld_scS ag72

theorem w72 {K : H → Option R} : st Tryd.prog h 72 b o v K = (wrc 1 h b o v).bind K := st_S sz72

theorem ag82 : aggT Tryd.prog 82 = some false := by kernel_rfl

theorem sz82 : size? Tryd.prog 82 = some 1 := by kernel_rfl

theorem d82 {K : Value → Option R} : ld Tryd.prog h 82 b o K = (h.cell b o).bind K := ld_scS ag82

theorem ag83 : aggT Tryd.prog 83 = some true := by kernel_rfl

theorem sz83 : size? Tryd.prog 83 = some 2 := by kernel_rfl

theorem d83 {K : Value → Option R} : ld Tryd.prog h 83 b o K = (h.rd b o 2).bind fun l => K (.agg l.toArray) := ld_agS ag83 sz83

theorem w83 {K : H → Option R} : st Tryd.prog h 83 b o v K = (wrc 2 h b o v).bind K := st_S sz83

theorem ag84 : aggT Tryd.prog 84 = some false := by kernel_rfl

theorem d84 {K : Value → Option R} : ld Tryd.prog h 84 b o K = (h.cell b o).bind K := ld_scS ag84

theorem ag95 : aggT Tryd.prog 95 = some true := by kernel_rfl

theorem sz95 : size? Tryd.prog 95 = some 4 := by kernel_rfl

theorem d95 {K : Value → Option R} : ld Tryd.prog h 95 b o K = (h.rd b o 4).bind fun l => K (.agg l.toArray) := ld_agS ag95 sz95

theorem w95 {K : H → Option R} : st Tryd.prog h 95 b o v K = (wrc 4 h b o v).bind K := st_S sz95

theorem ag120 : aggT Tryd.prog 120 = some false := by kernel_rfl

theorem sz120 : size? Tryd.prog 120 = some 1 := by kernel_rfl

theorem d120 {K : Value → Option R} : ld Tryd.prog h 120 b o K = (h.cell b o).bind K := ld_scS ag120

theorem w120 {K : H → Option R} : st Tryd.prog h 120 b o v K = (wrc 1 h b o v).bind K := st_S sz120

theorem ag121 : aggT Tryd.prog 121 = some false := by kernel_rfl

theorem sz121 : size? Tryd.prog 121 = some 1 := by kernel_rfl

theorem d121 {K : Value → Option R} : ld Tryd.prog h 121 b o K = (h.cell b o).bind K := ld_scS ag121

theorem w121 {K : H → Option R} : st Tryd.prog h 121 b o v K = (wrc 1 h b o v).bind K := st_S sz121

end Go.AM

end

section

/- The staged forms of functions 4, 18, 45, 86, 47, 87, 110, 111, 88, 112, 120, 19, 48, 89, 50, 51, 20, and what calls of these answer. -/
namespace Go.AM
open Go.Proofs
noncomputable def f4 (rec : Rec) (_k : Nat) (v0 : Value) (h0 : H) : Option (Value × H) :=
  calls rec h0 14 [v0] fun v1 h1 =>
  asB v1 fun q0 =>
  ifB (not q0) (
    calls rec h1 15 [] fun v2 h2 =>
    asB v2 fun q1 =>
    some ((.bool q1), h2)) (
    len v0 fun n0 =>
    ifB (lt n0 4) (
      calls rec h1 15 [] fun v3 h3 =>
      asB v3 fun q2 =>
      some ((.bool q2), h3)) (
      calls rec h1 11 [v0] fun v4 h4 =>
      calls rec h4 16 [v4] fun v5 h5 =>
      ext v5 0 fun v6 =>
      asI .i64 v6 fun n1 =>
      ext v5 1 fun v7 =>
      asI .i64 v7 fun n2 =>
      calls rec h5 11 [v0] fun v8 h6 =>
      calls rec h6 17 [v8] fun v9 h7 =>
      ext v9 0 fun v10 =>
      ext v9 1 fun v11 =>
      asI .i64 v11 fun n3 =>
      calls rec h7 11 [v0] fun v12 h8 =>
      calls rec h8 10 [v12] fun v13 h9 =>
      ext v13 0 fun v14 =>
      ext v13 1 fun v15 =>
      asI .i64 v15 fun n4 =>
      ifB (not (eq n2 0)) (
        some ((.bool false), h9)) (
        ifB (not (eq n3 0)) (
          some ((.bool false), h9)) (
          ifB (not (eq n4 0)) (
            some ((.bool false), h9)) (
            ifB (not (eq n1 0)) (
              calls rec h9 15 [] fun v16 h10 =>
              asB v16 fun q3 =>
              some ((.bool q3), h10)) (
              len v10 fun n5 =>
              ifB (not (eq n5 0)) (
                calls rec h9 15 [] fun v17 h11 =>
                asB v17 fun q4 =>
                some ((.bool q4), h11)) (
                len v14 fun n6 =>
                ifB (not (eq n6 1)) (
                  calls rec h9 15 [] fun v18 h12 =>
                  asB v18 fun q5 =>
                  some ((.bool q5), h12)) (
                  calls rec h9 18 [(.int .i64 4)] fun v19 h13 =>
                  ext v19 0 fun v20 =>
                  ext v19 1 fun v21 =>
                  asI .i64 v21 fun n7 =>
                  calls rec h13 11 [v0] fun v22 h14 =>
                  calls rec h14 19 [v22, v20] fun v23 h15 =>
                  ext v23 0 fun _ =>
                  ext v23 1 fun v25 =>
                  asI .i64 v25 fun n8 =>
                  calls rec h15 11 [v0] fun v26 h16 =>
                  calls rec h16 20 [v26] fun v27 h17 =>
                  ext v27 0 fun _ =>
                  ext v27 1 fun v29 =>
                  asI .i64 v29 fun n9 =>
                  ifB (eq n7 0) (
                    ifB (eq n8 0) (
                      ifB (eq n9 4) (
                        calls rec h17 15 [] fun v30 h18 =>
                        asB v30 fun q6 =>
                        some ((.bool q6), h18)) (
                        some ((.bool false), h17))) (
                      some ((.bool false), h17))) (
                    some ((.bool false), h17))))))))))

theorem e4 (rec : Rec) (k : Nat) (v0 : Value) (h : H) : bodyT Tryd.prog E0 SC (XC Tryd.prog rec k) 4 (Value × H) [.opq v0] h (fun v h => some (v, h)) = f4 rec k v0 h := by kernel_rfl

theorem t4 {k : Nat} {v0 : Value} {h h1 : H} {v : Value} (hh : f4 rn k v0 h = some (v, h1)) : rn 4 #[v0] h = some (v, trunc Tryd.prog h h1 v) :=
  run_of_bodyT (args := [.opq v0]) rfl ((e4 _ _ _ _).trans hh)

theorem p4 {k : Nat} {v0 : Value} {h h1 : H} {v : Value} (hh : f4 rn k v0 h = some (v, h1)) (hp : plainO v = true) (x : Ext h h1) : rn 4 #[v0] h = some (v, h) := by rw [t4 hh, trunc_pure hp x]

theorem x4 {k : Nat} {v0 : Value} {h h1 : H} {v : Value} (hh : f4 rn k v0 h = some (v, h1)) (hp : plainO v = false) : ∃ h2, rn 4 #[v0] h = some (v, h2) ∧ Sm h1 h2 ∧ (Ext h h1 → Exw h h2) := trunc_cell hp (t4 hh)

noncomputable def f18 (rec : Rec) (_k : Nat) (n0 : Int) (h0 : H) : Option (Value × H) :=
  ifB (lt n0 1) (
    some ((.tuple #[(.slice none 0 0), (.int .i64 2)]), h0)) (
    ifB (lt 6 n0) (
      some ((.tuple #[(.slice none 0 0), (.int .i64 2)]), h0)) (
      calls rec h0 45 [(.int .i64 n0)] fun v0 h1 =>
      some ((.tuple #[v0, (.int .i64 0)]), h1)))

theorem e18 (rec : Rec) (k : Nat) (n0 : Int) (h : H) : bodyT Tryd.prog E0 SC (XC Tryd.prog rec k) 18 (Value × H) [.int .i64 n0] h (fun v h => some (v, h)) = f18 rec k n0 h := by kernel_rfl

theorem t18 {k : Nat} {n0 : Int} {h h1 : H} {v : Value} (hh : f18 rn k n0 h = some (v, h1)) : rn 18 #[.int .i64 n0] h = some (v, trunc Tryd.prog h h1 v) :=
  run_of_bodyT (args := [.int .i64 n0]) rfl ((e18 _ _ _ _).trans hh)

theorem x18 {k : Nat} {n0 : Int} {h h1 : H} {v : Value} (hh : f18 rn k n0 h = some (v, h1)) (hp : plainO v = false) : ∃ h2, rn 18 #[.int .i64 n0] h = some (v, h2) ∧ Sm h1 h2 ∧ (Ext h h1 → Exw h h2) := trunc_cell hp (t18 hh)

noncomputable def f86 (_rec : Rec) (_k : Nat) (v0 : Value) (n0 : Int) (n1 : Int) (h0 : H) : Option (Value × H) :=
  six v0 n0 1 fun b0 b1 =>
  ld Tryd.prog h0 3 b0 b1 fun v1 =>
  asI .i64 v1 fun n2 =>
  nn n1 (
    six v0 n0 1 fun b2 b3 =>
    st Tryd.prog h0 3 b2 b3 (.int .i64 (or .i64 n2 (shl .i64 1 n1))) fun h1 =>
    six v0 n1 1 fun b4 b5 =>
    ld Tryd.prog h1 3 b4 b5 fun v2 =>
    asI .i64 v2 fun n3 =>
    nn n0 (
      six v0 n1 1 fun b6 b7 =>
      st Tryd.prog h1 3 b6 b7 (.int .i64 (or .i64 n3 (shl .i64 1 n0))) fun h2 =>
      some (undef, h2)))

theorem e86 (rec : Rec) (k : Nat) (v0 : Value) (n0 : Int) (n1 : Int) (h : H) : bodyT Tryd.prog E0 SC (XC Tryd.prog rec k) 86 (Value × H) [.opq v0, .int .i64 n0, .int .i64 n1] h (fun v h => some (v, h)) = f86 rec k v0 n0 n1 h := by kernel_rfl

theorem t86 {k : Nat} {v0 : Value} {n0 : Int} {n1 : Int} {h h1 : H} {v : Value} (hh : f86 rn k v0 n0 n1 h = some (v, h1)) : rn 86 #[v0, .int .i64 n0, .int .i64 n1] h = some (v, trunc Tryd.prog h h1 v) :=
  run_of_bodyT (args := [.opq v0, .int .i64 n0, .int .i64 n1]) rfl ((e86 _ _ _ _ _ _).trans hh)

theorem x86 {k : Nat} {v0 : Value} {n0 : Int} {n1 : Int} {h h1 : H} {v : Value} (hh : f86 rn k v0 n0 n1 h = some (v, h1)) (hp : plainO v = false) : ∃ h2, rn 86 #[v0, .int .i64 n0, .int .i64 n1] h = some (v, h2) ∧ Sm h1 h2 ∧ (Ext h h1 → Exw h h2) := trunc_cell hp (t86 hh)

noncomputable def f19 (rec : Rec) (_k : Nat) (v0 : Value) (v1 : Value) (h0 : H) : Option (Value × H) :=
  calls rec h0 46 [v0, (.int .i64 8)] fun v2 h1 =>
  ext v2 0 fun v3 =>
  ext v2 1 fun v4 =>
  asB v4 fun q0 =>
  calls rec h1 46 [v1, (.int .i64 6)] fun v5 h2 =>
  ext v5 0 fun v6 =>
  ext v5 1 fun v7 =>
  asB v7 fun q1 =>
  ifB (not q0) (
    some ((.tuple #[(.slice none 0 0), (.int .i64 2)]), h2)) (
    ifB (not q1) (
      some ((.tuple #[(.slice none 0 0), (.int .i64 2)]), h2)) (
      calls rec h2 47 [v3, v6] fun v8 h3 =>
      eqv Tryd.prog 22 v8 (.slice none 0 0) fun q2 =>
      ifB q2 (
        some ((.tuple #[(.slice none 0 0), (.int .i64 4)]), h3)) (
        some ((.tuple #[v8, (.int .i64 0)]), h3))))

theorem e19 (rec : Rec) (k : Nat) (v0 : Value) (v1 : Value) (h : H) : bodyT Tryd.prog E0 SC (XC Tryd.prog rec k) 19 (Value × H) [.opq v0, .opq v1] h (fun v h => some (v, h)) = f19 rec k v0 v1 h := by kernel_rfl

theorem t19 {k : Nat} {v0 : Value} {v1 : Value} {h h1 : H} {v : Value} (hh : f19 rn k v0 v1 h = some (v, h1)) : rn 19 #[v0, v1] h = some (v, trunc Tryd.prog h h1 v) :=
  run_of_bodyT (args := [.opq v0, .opq v1]) rfl ((e19 _ _ _ _ _).trans hh)

theorem x19 {k : Nat} {v0 : Value} {v1 : Value} {h h1 : H} {v : Value} (hh : f19 rn k v0 v1 h = some (v, h1)) (hp : plainO v = false) : ∃ h2, rn 19 #[v0, v1] h = some (v, h2) ∧ Sm h1 h2 ∧ (Ext h h1 → Exw h h2) := trunc_cell hp (t19 hh)

noncomputable def f48 (rec : Rec) (_k : Nat) (v0 : Value) (h0 : H) : Option (Value × H) :=
  calls rec h0 89 [v0] fun v1 h1 =>
  calls rec h1 57 [v0] fun v2 h2 =>
  asI .i64 v2 fun n0 =>
  bld Tryd.prog 92 [(0, v1), (1, (.int .i64 n0))] fun v3 =>
  bx h2 92 v3 fun h3 =>
  some ((pt (nx h2) 0), h3)

theorem e48 (rec : Rec) (k : Nat) (v0 : Value) (h : H) : bodyT Tryd.prog E0 SC (XC Tryd.prog rec k) 48 (Value × H) [.opq v0] h (fun v h => some (v, h)) = f48 rec k v0 h := by kernel_rfl

theorem t48 {k : Nat} {v0 : Value} {h h1 : H} {v : Value} (hh : f48 rn k v0 h = some (v, h1)) : rn 48 #[v0] h = some (v, trunc Tryd.prog h h1 v) :=
  run_of_bodyT (args := [.opq v0]) rfl ((e48 _ _ _ _).trans hh)

theorem x48 {k : Nat} {v0 : Value} {h h1 : H} {v : Value} (hh : f48 rn k v0 h = some (v, h1)) (hp : plainO v = false) : ∃ h2, rn 48 #[v0] h = some (v, h2) ∧ Sm h1 h2 ∧ (Ext h h1 → Exw h h2) := trunc_cell hp (t48 hh)

noncomputable def f89 (_rec : Rec) (_k : Nat) (v0 : Value) (h0 : H) : Option (Value × H) :=
  eqv Tryd.prog 84 v0 (.slice none 0 0) fun q0 =>
  ifB q0 (
    some ((.slice none 0 0), h0)) (
    bls Tryd.prog h0 84 0 [] fun v1 h1 =>
    app Tryd.prog h1 84 84 v1 v0 fun v2 h2 =>
    some (v2, h2))

theorem e89 (rec : Rec) (k : Nat) (v0 : Value) (h : H) : bodyT Tryd.prog E0 SC (XC Tryd.prog rec k) 89 (Value × H) [.opq v0] h (fun v h => some (v, h)) = f89 rec k v0 h := by kernel_rfl

theorem t89 {k : Nat} {v0 : Value} {h h1 : H} {v : Value} (hh : f89 rn k v0 h = some (v, h1)) : rn 89 #[v0] h = some (v, trunc Tryd.prog h h1 v) :=
  run_of_bodyT (args := [.opq v0]) rfl ((e89 _ _ _ _).trans hh)

theorem x89 {k : Nat} {v0 : Value} {h h1 : H} {v : Value} (hh : f89 rn k v0 h = some (v, h1)) (hp : plainO v = false) : ∃ h2, rn 89 #[v0] h = some (v, h2) ∧ Sm h1 h2 ∧ (Ext h h1 → Exw h h2) := trunc_cell hp (t89 hh)

noncomputable def f50 (rec : Rec) (_k : Nat) (v0 : Value) (n0 : Int) (h0 : H) : Option (Value × H) :=
  al h0 95 [(.int .i64 0), (.int .i64 0), (.int .i64 0), (.int .i64 0)] fun h1 =>
  nil v0 (
    asP v0 fun b0 b1 =>
    ld Tryd.prog h1 84 b0 b1 fun v1 =>
    six v1 n0 1 fun b2 b3 =>
    ld Tryd.prog h1 3 b2 b3 fun v2 =>
    asI .i64 v2 fun n1 =>
    nil v0 (
      asP v0 fun b4 b5 =>
      ld Tryd.prog h1 3 b4 (off b5 1) fun v3 =>
      asI .i64 v3 fun n2 =>
      calls rec h1 49 [(.int .i64 (and .i64 n1 n2))] fun v4 h2 =>
      len v4 fun n3 =>
      bld Tryd.prog 95 [(0, (.int .i64 n3)), (1, (.int .i64 n0)), (2, (.int .i64 (-1))), (3, (.int .i64 (-1)))] fun v5 =>
      al h2 95 [(.int .i64 0), (.int .i64 0), (.int .i64 0), (.int .i64 0)] fun h3 =>
      st Tryd.prog h3 95 (nx h2) 0 v5 fun h4 =>
      len v4 fun n4 =>
      ifB (eq n4 1) (
        six v4 0 1 fun b6 b7 =>
        ld Tryd.prog h4 3 b6 b7 fun v6 =>
        asI .i64 v6 fun n5 =>
        st Tryd.prog h4 3 (nx h2) (off 0 2) (.int .i64 n5) fun h5 =>
        ld Tryd.prog h5 95 (nx h2) 0 fun v7 =>
        len v4 fun n6 =>
        st Tryd.prog h5 95 (nx h0) 0 v7 fun h6 =>
        ld Tryd.prog h6 95 (nx h0) 0 fun v8 =>
        some ((.tuple #[v8, (.bool (le n6 2))]), h6)) (
        ifB (eq n4 2) (
          six v4 0 1 fun b8 b9 =>
          ld Tryd.prog h4 3 b8 b9 fun v9 =>
          asI .i64 v9 fun n7 =>
          six v4 1 1 fun b10 b11 =>
          ld Tryd.prog h4 3 b10 b11 fun v10 =>
          asI .i64 v10 fun n8 =>
          st Tryd.prog h4 3 (nx h2) (off 0 2) (.int .i64 n7) fun h7 =>
          ck (fre b10 (nx h4) b11 1 (nx h2) (off 0 2) 1) (
            st Tryd.prog h7 3 (nx h2) (off 0 3) (.int .i64 n8) fun h8 =>
            ld Tryd.prog h8 95 (nx h2) 0 fun v11 =>
            len v4 fun n9 =>
            st Tryd.prog h8 95 (nx h0) 0 v11 fun h9 =>
            ld Tryd.prog h9 95 (nx h0) 0 fun v12 =>
            some ((.tuple #[v12, (.bool (le n9 2))]), h9))) (
          ld Tryd.prog h4 95 (nx h2) 0 fun v13 =>
          len v4 fun n10 =>
          st Tryd.prog h4 95 (nx h0) 0 v13 fun h10 =>
          ld Tryd.prog h10 95 (nx h0) 0 fun v14 =>
          some ((.tuple #[v14, (.bool (le n10 2))]), h10)))))

theorem e50 (rec : Rec) (k : Nat) (v0 : Value) (n0 : Int) (h : H) : bodyT Tryd.prog E0 SC (XC Tryd.prog rec k) 50 (Value × H) [.opq v0, .int .i64 n0] h (fun v h => some (v, h)) = f50 rec k v0 n0 h := by kernel_rfl

theorem t50 {k : Nat} {v0 : Value} {n0 : Int} {h h1 : H} {v : Value} (hh : f50 rn k v0 n0 h = some (v, h1)) : rn 50 #[v0, .int .i64 n0] h = some (v, trunc Tryd.prog h h1 v) :=
  run_of_bodyT (args := [.opq v0, .int .i64 n0]) rfl ((e50 _ _ _ _ _).trans hh)

theorem p50 {k : Nat} {v0 : Value} {n0 : Int} {h h1 : H} {v : Value} (hh : f50 rn k v0 n0 h = some (v, h1)) (hp : plainO v = true) (x : Ext h h1) : rn 50 #[v0, .int .i64 n0] h = some (v, h) := by rw [t50 hh, trunc_pure hp x]

noncomputable def f51 (rec : Rec) (_k : Nat) (v0 : Value) (v1 : Value) (h0 : H) : Option (Value × H) :=
  bx h0 95 v1 fun h1 =>
  nil v0 (
    asP v0 fun b0 b1 =>
    ld Tryd.prog h1 3 b0 (off b1 1) fun v2 =>
    asI .i64 v2 fun n0 =>
    ld Tryd.prog h1 3 (nx h0) (off 0 1) fun v3 =>
    asI .i64 v3 fun n1 =>
    nn n1 (
      nil v0 (
        asP v0 fun b2 b3 =>
        st Tryd.prog h1 3 b2 (off b3 1) (.int .i64 (andNot .i64 n0 (shl .i64 1 n1))) fun h2 =>
        ld Tryd.prog h2 3 (nx h0) 0 fun v4 =>
        asI .i64 v4 fun n2 =>
        ifB (eq n2 2) (
          nil v0 (
            asP v0 fun b4 b5 =>
            ld Tryd.prog h2 84 b4 b5 fun v5 =>
            ld Tryd.prog h2 3 (nx h0) (off 0 2) fun v6 =>
            asI .i64 v6 fun n3 =>
            ld Tryd.prog h2 3 (nx h0) (off 0 3) fun v7 =>
            asI .i64 v7 fun n4 =>
            calls rec h2 86 [v5, (.int .i64 n3), (.int .i64 n4)] fun _ h3 =>
            some (undef, h3))) (
          some (undef, h2)))))

theorem e51 (rec : Rec) (k : Nat) (v0 : Value) (v1 : Value) (h : H) : bodyT Tryd.prog E0 SC (XC Tryd.prog rec k) 51 (Value × H) [.opq v0, .opq v1] h (fun v h => some (v, h)) = f51 rec k v0 v1 h := by kernel_rfl

theorem t51 {k : Nat} {v0 : Value} {v1 : Value} {h h1 : H} {v : Value} (hh : f51 rn k v0 v1 h = some (v, h1)) : rn 51 #[v0, v1] h = some (v, trunc Tryd.prog h h1 v) :=
  run_of_bodyT (args := [.opq v0, .opq v1]) rfl ((e51 _ _ _ _ _).trans hh)

theorem x51 {k : Nat} {v0 : Value} {v1 : Value} {h h1 : H} {v : Value} (hh : f51 rn k v0 v1 h = some (v, h1)) (hp : plainO v = false) : ∃ h2, rn 51 #[v0, v1] h = some (v, h2) ∧ Sm h1 h2 ∧ (Ext h h1 → Exw h h2) := trunc_cell hp (t51 hh)

noncomputable def f20_l2 (rec : Rec) (_k : Nat) (v4 : Value) (v7 : Value) (n2 : Int) (ws1 : List Value) (h5 : H) : Option (Ex × List Value × H) :=
  asI .i64 (gv ws1 2) fun n3 =>
  ifB (lt n3 n2) (
    asK (gv ws1 2) fun n4 =>
    six v7 n4 1 fun b4 b5 =>
    ld Tryd.prog h5 3 b4 b5 fun v8 =>
    asI .i64 v8 fun n5 =>
    calls rec h5 50 [v4, (.int .i64 n5)] fun v9 h6 =>
    ext v9 0 fun v10 =>
    ext v9 1 fun v11 =>
    asB v11 fun q1 =>
    al h6 95 [(.int .i64 0), (.int .i64 0), (.int .i64 0), (.int .i64 0)] fun h7 =>
    st Tryd.prog h7 95 (nx h6) 0 v10 fun h8 =>
    ifB q1 (
      ld Tryd.prog h8 95 (nx h6) 0 fun v12 =>
      calls rec h8 51 [v4, v12] fun _ h9 =>
      ld Tryd.prog h9 95 (nx h6) 0 fun v14 =>
      bls Tryd.prog h9 39 1 [(0, v14)] fun v15 h10 =>
      app Tryd.prog h10 39 39 (gv ws1 0) v15 fun v16 h11 =>
      out (.exit 2) [v16, (.bool true), gv ws1 2] h11) (
      asI .i64 (gv ws1 2) fun n6 =>
      out .normal [gv ws1 0, gv ws1 1, (.int .i64 (add .i64 n6 1))] h8)) (
    out (.exit 2) [gv ws1 0, gv ws1 1, gv ws1 2] h5)

noncomputable def f20_l1 (rec : Rec) (k : Nat) (v4 : Value) (ws0 : List Value) (h3 : H) : Option (Ex × List Value × H) :=
  nil v4 (
    asP v4 fun b0 b1 =>
    ld Tryd.prog h3 3 b0 (off b1 1) fun v5 =>
    asI .i64 v5 fun n0 =>
    ifB (not (eq n0 0)) (
      nil v4 (
        asP v4 fun b2 b3 =>
        ld Tryd.prog h3 3 b2 (off b3 1) fun v6 =>
        asI .i64 v6 fun n1 =>
        calls rec h3 49 [(.int .i64 n1)] fun v7 h4 =>
        len v7 fun n2 =>
        lp k (f20_l2 rec k v4 v7 n2) [gv ws0 0, (.bool false), (.int .i64 0)] h4 fun e0 ws2 h12 =>
        onE e0 2 (
          asB (gv ws2 1) fun q2 =>
          ifB (not q2) (
            out .ret [gv ws2 0, (.slice none 0 0), (.int .i64 4)] h12) (
            out .normal [gv ws2 0, gv ws0 1, gv ws0 2] h12)) (
          none))) (
      out (.exit 0) [gv ws0 0, gv ws0 1, gv ws0 2] h3))

noncomputable def f20 (rec : Rec) (k : Nat) (v0 : Value) (h0 : H) : Option (Value × H) :=
  calls rec h0 46 [v0, (.int .i64 8)] fun v1 h1 =>
  ext v1 0 fun v2 =>
  ext v1 1 fun v3 =>
  asB v3 fun q0 =>
  ifB (not q0) (
    some ((.tuple #[(.slice none 0 0), (.int .i64 2)]), h1)) (
    calls rec h1 48 [v2] fun v4 h2 =>
    lp k (f20_l1 rec k v4) [(.slice none 0 0), (.slice none 0 0), (.int .i64 0)] h2 fun e1 ws3 h13 =>
    onE e1 0 (
      some ((.tuple #[gv ws3 0, (.int .i64 0)]), h13)) (
      onR e1 (
        some ((.tuple #[gv ws3 1, gv ws3 2]), h13))))

theorem e20 (rec : Rec) (k : Nat) (v0 : Value) (h : H) : bodyT Tryd.prog E0 SC (XC Tryd.prog rec k) 20 (Value × H) [.opq v0] h (fun v h => some (v, h)) = f20 rec k v0 h := by kernel_rfl

theorem t20 {k : Nat} {v0 : Value} {h h1 : H} {v : Value} (hh : f20 rn k v0 h = some (v, h1)) : rn 20 #[v0] h = some (v, trunc Tryd.prog h h1 v) :=
  run_of_bodyT (args := [.opq v0]) rfl ((e20 _ _ _ _).trans hh)

theorem x20 {k : Nat} {v0 : Value} {h h1 : H} {v : Value} (hh : f20 rn k v0 h = some (v, h1)) (hp : plainO v = false) : ∃ h2, rn 20 #[v0] h = some (v, h2) ∧ Sm h1 h2 ∧ (Ext h h1 → Exw h h2) := trunc_cell hp (t20 hh)

end Go.AM

end

section

/- The staged forms of functions 5, 14, 46, 49, 57, 56, 91, 92, 22, and what calls of these answer. -/
namespace Go.AM
open Go.Proofs
noncomputable def f5 (rec : Rec) (_k : Nat) (v0 : Value) (h0 : H) : Option (Value × H) :=
  calls rec h0 14 [v0] fun v1 h1 =>
  asB v1 fun q0 =>
  ifB (not q0) (
    calls rec h1 15 [] fun v2 h2 =>
    asB v2 fun q1 =>
    some ((.bool q1), h2)) (
    calls rec h1 11 [v0] fun v3 h3 =>
    calls rec h3 21 [v3] fun v4 h4 =>
    ext v4 0 fun v5 =>
    asB v5 fun q2 =>
    ext v4 1 fun v6 =>
    asI .i64 v6 fun n0 =>
    calls rec h4 11 [v0] fun v7 h5 =>
    calls rec h5 22 [v7] fun v8 h6 =>
    ext v8 0 fun _ =>
    ext v8 1 fun v10 =>
    asI .i64 v10 fun n1 =>
    calls rec h6 11 [v0] fun v11 h7 =>
    calls rec h7 12 [v11] fun v12 h8 =>
    ext v12 0 fun v13 =>
    asI .i64 v13 fun n2 =>
    ext v12 1 fun v14 =>
    asI .i64 v14 fun n3 =>
    ifB (eq n0 0) (
      ifB (eq n3 0) (
        ifB (eq n1 0) (
          ifB (not q2) (
            calls rec h8 15 [] fun v15 h9 =>
            asB v15 fun q3 =>
            some ((.bool q3), h9)) (
            ifB (eq n1 0) (
              ifB (le n2 2) (
                calls rec h8 15 [] fun v16 h10 =>
                asB v16 fun q4 =>
                some ((.bool q4), h10)) (
                some ((.bool false), h8))) (
              some ((.bool false), h8)))) (
          ifB (eq n1 4) (
            ifB (not q2) (
              calls rec h8 15 [] fun v17 h11 =>
              asB v17 fun q5 =>
              some ((.bool q5), h11)) (
              ifB (eq n1 0) (
                ifB (le n2 2) (
                  calls rec h8 15 [] fun v18 h12 =>
                  asB v18 fun q6 =>
                  some ((.bool q6), h12)) (
                  some ((.bool false), h8))) (
                some ((.bool false), h8)))) (
            some ((.bool false), h8)))) (
        some ((.bool false), h8))) (
      some ((.bool false), h8)))

theorem e5 (rec : Rec) (k : Nat) (v0 : Value) (h : H) : bodyT Tryd.prog E0 SC (XC Tryd.prog rec k) 5 (Value × H) [.opq v0] h (fun v h => some (v, h)) = f5 rec k v0 h := by kernel_rfl

theorem t5 {k : Nat} {v0 : Value} {h h1 : H} {v : Value} (hh : f5 rn k v0 h = some (v, h1)) : rn 5 #[v0] h = some (v, trunc Tryd.prog h h1 v) :=
  run_of_bodyT (args := [.opq v0]) rfl ((e5 _ _ _ _).trans hh)

theorem p5 {k : Nat} {v0 : Value} {h h1 : H} {v : Value} (hh : f5 rn k v0 h = some (v, h1)) (hp : plainO v = true) (x : Ext h h1) : rn 5 #[v0] h = some (v, h) := by rw [t5 hh, trunc_pure hp x]

theorem x5 {k : Nat} {v0 : Value} {h h1 : H} {v : Value} (hh : f5 rn k v0 h = some (v, h1)) (hp : plainO v = false) : ∃ h2, rn 5 #[v0] h = some (v, h2) ∧ Sm h1 h2 ∧ (Ext h h1 → Exw h h2) := trunc_cell hp (t5 hh)

noncomputable def f14 (rec : Rec) (_k : Nat) (v0 : Value) (h0 : H) : Option (Value × H) :=
  calls rec h0 35 [v0, (.int .i64 8)] fun v1 h1 =>
  asB v1 fun q0 =>
  some ((.bool q0), h1)

theorem e14 (rec : Rec) (k : Nat) (v0 : Value) (h : H) : bodyT Tryd.prog E0 SC (XC Tryd.prog rec k) 14 (Value × H) [.opq v0] h (fun v h => some (v, h)) = f14 rec k v0 h := by kernel_rfl

theorem t14 {k : Nat} {v0 : Value} {h h1 : H} {v : Value} (hh : f14 rn k v0 h = some (v, h1)) : rn 14 #[v0] h = some (v, trunc Tryd.prog h h1 v) :=
  run_of_bodyT (args := [.opq v0]) rfl ((e14 _ _ _ _).trans hh)

theorem x14 {k : Nat} {v0 : Value} {h h1 : H} {v : Value} (hh : f14 rn k v0 h = some (v, h1)) (hp : plainO v = false) : ∃ h2, rn 14 #[v0] h = some (v, h2) ∧ Sm h1 h2 ∧ (Ext h h1 → Exw h h2) := trunc_cell hp (t14 hh)

noncomputable def f46_l2 (_rec : Rec) (_k : Nat) (v0 : Value) (n1 : Int) (ws0 : List Value) (n5 : Int) (ws1 : List Value) (h2 : H) : Option (Ex × List Value × H) :=
  asI .i64 (gv ws1 2) fun n7 =>
  ifB (lt n7 n1) (
    asK (gv ws1 2) fun n8 =>
    nn n8 (
      asK (gv ws1 2) fun n9 =>
      six v0 n9 1 fun b2 b3 =>
      ld Tryd.prog h2 3 b2 b3 fun v2 =>
      asI .i64 v2 fun n10 =>
      asK (gv ws0 2) fun n11 =>
      nn n11 (
        ifB (not (eq (and .i64 (shr .i64 n5 n8) 1) (and .i64 (shr .i64 n10 n11) 1))) (
          out .ret [(.slice none 0 0), (.bool false), gv ws1 2] h2) (
          asI .i64 (gv ws1 2) fun n12 =>
          out .normal [gv ws1 0, gv ws1 1, (.int .i64 (add .i64 n12 1))] h2)))) (
    out (.exit 2) [gv ws1 0, gv ws1 1, gv ws1 2] h2)

noncomputable def f46_l1 (rec : Rec) (k : Nat) (v0 : Value) (n1 : Int) (n2 : Int) (ws0 : List Value) (h1 : H) : Option (Ex × List Value × H) :=
  asI .i64 (gv ws0 2) fun n3 =>
  ifB (lt n3 n2) (
    asK (gv ws0 2) fun n4 =>
    six v0 n4 1 fun b0 b1 =>
    ld Tryd.prog h1 3 b0 b1 fun v1 =>
    asI .i64 v1 fun n5 =>
    ifB (lt n5 0) (
      out .ret [(.slice none 0 0), (.bool false), gv ws0 2] h1) (
      nn n1 (
        ifB (le (shl .i64 1 n1) n5) (
          out .ret [(.slice none 0 0), (.bool false), gv ws0 2] h1) (
          asK (gv ws0 2) fun n6 =>
          nn n6 (
            ifB (eq (and .i64 (shr .i64 n5 n6) 1) 1) (
              out .ret [(.slice none 0 0), (.bool false), gv ws0 2] h1) (
              lp k (f46_l2 rec k v0 n1 ws0 n5) [gv ws0 0, gv ws0 1, (.int .i64 0)] h1 fun e0 ws2 h3 =>
              onE e0 2 (
                asI .i64 (gv ws0 2) fun n13 =>
                out .normal [gv ws2 0, gv ws2 1, (.int .i64 (add .i64 n13 1))] h3) (
                onR e0 (
                  out .ret [gv ws2 0, gv ws2 1, gv ws0 2] h3)))))))) (
    out (.exit 0) [gv ws0 0, gv ws0 1, gv ws0 2] h1)

noncomputable def f46 (rec : Rec) (k : Nat) (v0 : Value) (n0 : Int) (h0 : H) : Option (Value × H) :=
  len v0 fun n1 =>
  ifB (lt n1 1) (
    some ((.tuple #[(.slice none 0 0), (.bool false)]), h0)) (
    ifB (lt n0 n1) (
      some ((.tuple #[(.slice none 0 0), (.bool false)]), h0)) (
      len v0 fun n2 =>
      lp k (f46_l1 rec k v0 n1 n2) [(.slice none 0 0), (.bool false), (.int .i64 0)] h0 fun e1 ws3 h4 =>
      onE e1 0 (
        some ((.tuple #[v0, (.bool true)]), h4)) (
        onR e1 (
          some ((.tuple #[gv ws3 0, gv ws3 1]), h4)))))

theorem e46 (rec : Rec) (k : Nat) (v0 : Value) (n0 : Int) (h : H) : bodyT Tryd.prog E0 SC (XC Tryd.prog rec k) 46 (Value × H) [.opq v0, .int .i64 n0] h (fun v h => some (v, h)) = f46 rec k v0 n0 h := by kernel_rfl

theorem t46 {k : Nat} {v0 : Value} {n0 : Int} {h h1 : H} {v : Value} (hh : f46 rn k v0 n0 h = some (v, h1)) : rn 46 #[v0, .int .i64 n0] h = some (v, trunc Tryd.prog h h1 v) :=
  run_of_bodyT (args := [.opq v0, .int .i64 n0]) rfl ((e46 _ _ _ _ _).trans hh)

theorem y46 {k : Nat} {v0 : Value} {n0 : Int} {h : H} {v : Value} (hh : f46 rn k v0 n0 h = some (v, h)) : rn 46 #[v0, .int .i64 n0] h = some (v, h) := by rw [t46 hh, trunc_self]

noncomputable def f49_l1 (rec : Rec) (_k : Nat)  (ws0 : List Value) (h1 : H) : Option (Ex × List Value × H) :=
  asI .i64 (gv ws0 1) fun n1 =>
  ifB (not (eq n1 0)) (
    asI .i64 (gv ws0 1) fun n2 =>
    calls rec h1 79 [(.int .u64 (wr .u64 n2))] fun v0 h2 =>
    asI .i64 v0 fun n3 =>
    bls Tryd.prog h2 22 1 [(0, (.int .i64 n3))] fun v1 h3 =>
    app Tryd.prog h3 22 22 (gv ws0 0) v1 fun v2 h4 =>
    asI .i64 (gv ws0 1) fun n4 =>
    asI .i64 (gv ws0 1) fun n5 =>
    out .normal [v2, (.int .i64 (and .i64 n5 (sub .i64 n4 1)))] h4) (
    out (.exit 0) [gv ws0 0, gv ws0 1] h1)

noncomputable def f49 (rec : Rec) (k : Nat) (n0 : Int) (h0 : H) : Option (Value × H) :=
  lp k (f49_l1 rec k) [(.slice none 0 0), (.int .i64 n0)] h0 fun e0 ws1 h5 =>
  onE e0 0 (
    some (gv ws1 0, h5)) (
    none)

theorem e49 (rec : Rec) (k : Nat) (n0 : Int) (h : H) : bodyT Tryd.prog E0 SC (XC Tryd.prog rec k) 49 (Value × H) [.int .i64 n0] h (fun v h => some (v, h)) = f49 rec k n0 h := by kernel_rfl

theorem t49 {k : Nat} {n0 : Int} {h h1 : H} {v : Value} (hh : f49 rn k n0 h = some (v, h1)) : rn 49 #[.int .i64 n0] h = some (v, trunc Tryd.prog h h1 v) :=
  run_of_bodyT (args := [.int .i64 n0]) rfl ((e49 _ _ _ _).trans hh)

theorem x49 {k : Nat} {n0 : Int} {h h1 : H} {v : Value} (hh : f49 rn k n0 h = some (v, h1)) (hp : plainO v = false) : ∃ h2, rn 49 #[.int .i64 n0] h = some (v, h2) ∧ Sm h1 h2 ∧ (Ext h h1 → Exw h h2) := trunc_cell hp (t49 hh)

noncomputable def f57 (_rec : Rec) (_k : Nat) (v0 : Value) (h0 : H) : Option (Value × H) :=
  len v0 fun n0 =>
  nn n0 (
    some ((.int .i64 (sub .i64 (shl .i64 1 n0) 1)), h0))

theorem e57 (rec : Rec) (k : Nat) (v0 : Value) (h : H) : bodyT Tryd.prog E0 SC (XC Tryd.prog rec k) 57 (Value × H) [.opq v0] h (fun v h => some (v, h)) = f57 rec k v0 h := by kernel_rfl

theorem t57 {k : Nat} {v0 : Value} {h h1 : H} {v : Value} (hh : f57 rn k v0 h = some (v, h1)) : rn 57 #[v0] h = some (v, trunc Tryd.prog h h1 v) :=
  run_of_bodyT (args := [.opq v0]) rfl ((e57 _ _ _ _).trans hh)

theorem p57 {k : Nat} {v0 : Value} {h h1 : H} {v : Value} (hh : f57 rn k v0 h = some (v, h1)) (hp : plainO v = true) (x : Ext h h1) : rn 57 #[v0] h = some (v, h) := by rw [t57 hh, trunc_pure hp x]

noncomputable def f56 (rec : Rec) (_k : Nat) (v0 : Value) (n0 : Int) (h0 : H) : Option (Value × H) :=
  bx h0 84 v0 fun h1 =>
  al h1 22 [(.slice none 0 0)] fun h2 =>
  al h2 82 [.nilFunc] fun h3 =>
  st Tryd.prog h3 82 (nx h2) 0 (.func (.func 91) #[] #[(pt (nx h1) 0), (pt (nx h0) 0), (pt (nx h2) 0)]) fun h4 =>
  ld Tryd.prog h4 82 (nx h2) 0 fun v1 =>
  callsV rec h4 v1 [(.int .i64 n0)] fun v2 h5 =>
  asB v2 fun q0 =>
  ifB (not q0) (
    some ((.slice none 0 0), h5)) (
    ld Tryd.prog h5 22 (nx h1) 0 fun v3 =>
    some (v3, h5))

theorem e56 (rec : Rec) (k : Nat) (v0 : Value) (n0 : Int) (h : H) : bodyT Tryd.prog E0 SC (XC Tryd.prog rec k) 56 (Value × H) [.opq v0, .int .i64 n0] h (fun v h => some (v, h)) = f56 rec k v0 n0 h := by kernel_rfl

theorem t56 {k : Nat} {v0 : Value} {n0 : Int} {h h1 : H} {v : Value} (hh : f56 rn k v0 n0 h = some (v, h1)) : rn 56 #[v0, .int .i64 n0] h = some (v, trunc Tryd.prog h h1 v) :=
  run_of_bodyT (args := [.opq v0, .int .i64 n0]) rfl ((e56 _ _ _ _ _).trans hh)

theorem x56 {k : Nat} {v0 : Value} {n0 : Int} {h h1 : H} {v : Value} (hh : f56 rn k v0 n0 h = some (v, h1)) (hp : plainO v = false) : ∃ h2, rn 56 #[v0, .int .i64 n0] h = some (v, h2) ∧ Sm h1 h2 ∧ (Ext h h1 → Exw h h2) := trunc_cell hp (t56 hh)

noncomputable def f91_l1 (rec : Rec) (_k : Nat) (n0 : Int) (v0 : Value) (v1 : Value) (v2 : Value) (v3 : Value) (n1 : Int) (ws0 : List Value) (h2 : H) : Option (Ex × List Value × H) :=
  asI .i64 (gv ws0 1) fun n2 =>
  ifB (lt n2 n1) (
    asK (gv ws0 1) fun n3 =>
    six v3 n3 1 fun b0 b1 =>
    ld Tryd.prog h2 3 b0 b1 fun v4 =>
    asI .i64 v4 fun n4 =>
    asP v0 fun b2 b3 =>
    ld Tryd.prog h2 22 b2 b3 fun v5 =>
    bls Tryd.prog h2 22 1 [(0, (.int .i64 n4))] fun v6 h3 =>
    app Tryd.prog h3 22 22 v5 v6 fun v7 h4 =>
    asP v0 fun b4 b5 =>
    st Tryd.prog h4 22 b4 b5 v7 fun h5 =>
    asP v1 fun _ _ =>
    asP v1 fun b8 b9 =>
    ld Tryd.prog h5 84 b8 b9 fun v8 =>
    asP v0 fun _ _ =>
    asP v0 fun b12 b13 =>
    ld Tryd.prog h5 22 b12 b13 fun v9 =>
    calls rec h5 92 [v8, v9] fun v10 h6 =>
    asB v10 fun q0 =>
    ifB (not q0) (
      asP v2 fun _ _ =>
      asP v2 fun b16 b17 =>
      ld Tryd.prog h6 82 b16 b17 fun v11 =>
      nn n4 (
        callsV rec h6 v11 [(.int .i64 (andNot .i64 n0 (shl .i64 1 n4)))] fun v12 h7 =>
        asB v12 fun q1 =>
        ifB q1 (
          out .ret [(.bool true), gv ws0 1] h7) (
          asP v0 fun b18 b19 =>
          ld Tryd.prog h7 22 b18 b19 fun v13 =>
          asP v0 fun b20 b21 =>
          ld Tryd.prog h7 22 b20 b21 fun v14 =>
          len v14 fun n5 =>
          sli Tryd.prog h7 22 v13 none (some (.int .i64 (sub .i64 n5 1))) none fun v15 =>
          asP v0 fun b22 b23 =>
          st Tryd.prog h7 22 b22 b23 v15 fun h8 =>
          asI .i64 (gv ws0 1) fun n6 =>
          out .normal [gv ws0 0, (.int .i64 (add .i64 n6 1))] h8))) (
      asP v0 fun b24 b25 =>
      ld Tryd.prog h6 22 b24 b25 fun v16 =>
      asP v0 fun b26 b27 =>
      ld Tryd.prog h6 22 b26 b27 fun v17 =>
      len v17 fun n7 =>
      sli Tryd.prog h6 22 v16 none (some (.int .i64 (sub .i64 n7 1))) none fun v18 =>
      asP v0 fun b28 b29 =>
      st Tryd.prog h6 22 b28 b29 v18 fun h9 =>
      asI .i64 (gv ws0 1) fun n8 =>
      out .normal [gv ws0 0, (.int .i64 (add .i64 n8 1))] h9)) (
    out (.exit 0) [gv ws0 0, gv ws0 1] h2)

noncomputable def f91 (rec : Rec) (k : Nat) (n0 : Int) (v0 : Value) (v1 : Value) (v2 : Value) (h0 : H) : Option (Value × H) :=
  ifB (eq n0 0) (
    some ((.bool true), h0)) (
    calls rec h0 49 [(.int .i64 n0)] fun v3 h1 =>
    len v3 fun n1 =>
    lp k (f91_l1 rec k n0 v0 v1 v2 v3 n1) [(.bool false), (.int .i64 0)] h1 fun e0 ws1 h10 =>
    onE e0 0 (
      some ((.bool false), h10)) (
      onR e0 (
        some (gv ws1 0, h10))))

theorem e91 (rec : Rec) (k : Nat) (n0 : Int) (v0 : Value) (v1 : Value) (v2 : Value) (h : H) : bodyT Tryd.prog E0 SC (XC Tryd.prog rec k) 91 (Value × H) [.int .i64 n0, .opq v0, .opq v1, .opq v2] h (fun v h => some (v, h)) = f91 rec k n0 v0 v1 v2 h := by kernel_rfl

theorem t91 {k : Nat} {n0 : Int} {v0 : Value} {v1 : Value} {v2 : Value} {h h1 : H} {v : Value} (hh : f91 rn k n0 v0 v1 v2 h = some (v, h1)) : rn 91 #[.int .i64 n0, v0, v1, v2] h = some (v, trunc Tryd.prog h h1 v) :=
  run_of_bodyT (args := [.int .i64 n0, .opq v0, .opq v1, .opq v2]) rfl ((e91 _ _ _ _ _ _ _).trans hh)

theorem y91 {k : Nat} {n0 : Int} {v0 : Value} {v1 : Value} {v2 : Value} {h : H} {v : Value} (hh : f91 rn k n0 v0 v1 v2 h = some (v, h)) : rn 91 #[.int .i64 n0, v0, v1, v2] h = some (v, h) := by rw [t91 hh, trunc_self]

noncomputable def f92_l3 (_rec : Rec) (_k : Nat) (v0 : Value) (v1 : Value) (n0 : Int) (ws1 : List Value) (ws2 : List Value) (h3 : H) : Option (Ex × List Value × H) :=
  asI .i64 (gv ws2 1) fun n11 =>
  ifB (lt n11 (sub .i64 n0 1)) (
    asK (gv ws1 1) fun n12 =>
    six v1 n12 1 fun b6 b7 =>
    ld Tryd.prog h3 3 b6 b7 fun v6 =>
    asI .i64 v6 fun n13 =>
    six v0 n13 1 fun b8 b9 =>
    ld Tryd.prog h3 3 b8 b9 fun v7 =>
    asI .i64 v7 fun n14 =>
    asK (gv ws2 1) fun n15 =>
    six v1 n15 1 fun b10 b11 =>
    ld Tryd.prog h3 3 b10 b11 fun v8 =>
    asI .i64 v8 fun n16 =>
    nn n16 (
      ifB (eq (and .i64 (shr .i64 n14 n16) 1) 1) (
        out .ret [(.bool true), gv ws2 1] h3) (
        asI .i64 (gv ws2 1) fun n17 =>
        out .normal [gv ws2 0, (.int .i64 (add .i64 n17 1))] h3))) (
    out (.exit 4) [gv ws2 0, gv ws2 1] h3)

noncomputable def f92_l2 (rec : Rec) (k : Nat) (v0 : Value) (v1 : Value) (n0 : Int) (ws0 : List Value) (ws1 : List Value) (h2 : H) : Option (Ex × List Value × H) :=
  asI .i64 (gv ws1 1) fun n8 =>
  asI .i64 (gv ws0 1) fun n9 =>
  ifB (lt n8 n9) (
    asI .i64 (gv ws0 1) fun n10 =>
    lp k (f92_l3 rec k v0 v1 n0 ws1) [gv ws1 0, (.int .i64 (add .i64 n10 1))] h2 fun e0 ws3 h4 =>
    onE e0 4 (
      asI .i64 (gv ws1 1) fun n18 =>
      out .normal [gv ws3 0, (.int .i64 (add .i64 n18 1))] h4) (
      onR e0 (
        out .ret [gv ws3 0, gv ws1 1] h4))) (
    out (.exit 2) [gv ws1 0, gv ws1 1] h2)

noncomputable def f92_l1 (rec : Rec) (k : Nat) (v0 : Value) (v1 : Value) (n0 : Int) (v2 : Value) (n1 : Int) (ws0 : List Value) (h1 : H) : Option (Ex × List Value × H) :=
  asI .i64 (gv ws0 1) fun n2 =>
  ifB (lt n2 n1) (
    asK (gv ws0 1) fun n3 =>
    six v2 n3 1 fun b0 b1 =>
    ld Tryd.prog h1 3 b0 b1 fun v3 =>
    asI .i64 v3 fun n4 =>
    six v0 n4 1 fun b2 b3 =>
    ld Tryd.prog h1 3 b2 b3 fun v4 =>
    asI .i64 v4 fun n5 =>
    six v1 (sub .i64 n0 1) 1 fun b4 b5 =>
    ld Tryd.prog h1 3 b4 b5 fun v5 =>
    asI .i64 v5 fun n6 =>
    nn n6 (
      ifB (eq (and .i64 (shr .i64 n5 n6) 1) 0) (
        asI .i64 (gv ws0 1) fun n7 =>
        out .normal [gv ws0 0, (.int .i64 (add .i64 n7 1))] h1) (
        lp k (f92_l2 rec k v0 v1 n0 ws0) [gv ws0 0, (.int .i64 0)] h1 fun e1 ws4 h5 =>
        onE e1 2 (
          asI .i64 (gv ws0 1) fun n19 =>
          out .normal [gv ws4 0, (.int .i64 (add .i64 n19 1))] h5) (
          onR e1 (
            out .ret [gv ws4 0, gv ws0 1] h5))))) (
    out (.exit 0) [gv ws0 0, gv ws0 1] h1)

noncomputable def f92 (rec : Rec) (k : Nat) (v0 : Value) (v1 : Value) (h0 : H) : Option (Value × H) :=
  len v1 fun n0 =>
  sli Tryd.prog h0 22 v1 none (some (.int .i64 (sub .i64 n0 1))) none fun v2 =>
  len v2 fun n1 =>
  lp k (f92_l1 rec k v0 v1 n0 v2 n1) [(.bool false), (.int .i64 0)] h0 fun e2 ws5 h6 =>
  onE e2 0 (
    some ((.bool false), h6)) (
    onR e2 (
      some (gv ws5 0, h6)))

theorem e92 (rec : Rec) (k : Nat) (v0 : Value) (v1 : Value) (h : H) : bodyT Tryd.prog E0 SC (XC Tryd.prog rec k) 92 (Value × H) [.opq v0, .opq v1] h (fun v h => some (v, h)) = f92 rec k v0 v1 h := by kernel_rfl

theorem t92 {k : Nat} {v0 : Value} {v1 : Value} {h h1 : H} {v : Value} (hh : f92 rn k v0 v1 h = some (v, h1)) : rn 92 #[v0, v1] h = some (v, trunc Tryd.prog h h1 v) :=
  run_of_bodyT (args := [.opq v0, .opq v1]) rfl ((e92 _ _ _ _ _).trans hh)

theorem p92 {k : Nat} {v0 : Value} {v1 : Value} {h h1 : H} {v : Value} (hh : f92 rn k v0 v1 h = some (v, h1)) (hp : plainO v = true) (x : Ext h h1) : rn 92 #[v0, v1] h = some (v, h) := by rw [t92 hh, trunc_pure hp x]

noncomputable def f22 (rec : Rec) (_k : Nat) (v0 : Value) (h0 : H) : Option (Value × H) :=
  calls rec h0 46 [v0, (.int .i64 8)] fun v1 h1 =>
  ext v1 0 fun v2 =>
  ext v1 1 fun v3 =>
  asB v3 fun q0 =>
  ifB (not q0) (
    some ((.tuple #[(.slice none 0 0), (.int .i64 2)]), h1)) (
    calls rec h1 57 [v2] fun v4 h2 =>
    asI .i64 v4 fun n0 =>
    calls rec h2 56 [v2, (.int .i64 n0)] fun v5 h3 =>
    eqv Tryd.prog 22 v5 (.slice none 0 0) fun q1 =>
    ifB q1 (
      some ((.tuple #[(.slice none 0 0), (.int .i64 4)]), h3)) (
      some ((.tuple #[v5, (.int .i64 0)]), h3)))

theorem e22 (rec : Rec) (k : Nat) (v0 : Value) (h : H) : bodyT Tryd.prog E0 SC (XC Tryd.prog rec k) 22 (Value × H) [.opq v0] h (fun v h => some (v, h)) = f22 rec k v0 h := by kernel_rfl

theorem t22 {k : Nat} {v0 : Value} {h h1 : H} {v : Value} (hh : f22 rn k v0 h = some (v, h1)) : rn 22 #[v0] h = some (v, trunc Tryd.prog h h1 v) :=
  run_of_bodyT (args := [.opq v0]) rfl ((e22 _ _ _ _).trans hh)

theorem x22 {k : Nat} {v0 : Value} {h h1 : H} {v : Value} (hh : f22 rn k v0 h = some (v, h1)) (hp : plainO v = false) : ∃ h2, rn 22 #[v0] h = some (v, h2) ∧ Sm h1 h2 ∧ (Ext h h1 → Exw h h2) := trunc_cell hp (t22 hh)

theorem y22 {k : Nat} {v0 : Value} {h : H} {v : Value} (hh : f22 rn k v0 h = some (v, h)) : rn 22 #[v0] h = some (v, h) := by rw [t22 hh, trunc_self]

end Go.AM

end

section

/- The staged forms of functions 3, 11, 12, 13, 39, 40, 84, 85, 108, 109, 117, 118, 119, and what calls of these answer. -/
namespace Go.AM
open Go.Proofs
noncomputable def f3_l1 (rec : Rec) (_k : Nat) (v0 : Value) (v6 : Value) (n4 : Int) (ws0 : List Value) (h8 : H) : Option (Ex × List Value × H) :=
  asI .i64 (gv ws0 2) fun n5 =>
  ifB (lt n5 n4) (
    asK (gv ws0 2) fun n6 =>
    six v6 n6 1 fun b0 b1 =>
    ld Tryd.prog h8 3 b0 b1 fun v12 =>
    asI .i64 v12 fun n7 =>
    ifB (lt n7 1) (
      out .ret [(.bool false), gv ws0 1, gv ws0 2] h8) (
      len v0 fun n8 =>
      nn n8 (
        ifB (le (shl .i64 1 n8) n7) (
          out .ret [(.bool false), gv ws0 1, gv ws0 2] h8) (
          calls rec h8 13 [v0, (.int .i64 n7)] fun v13 h9 =>
          calls rec h9 12 [v13] fun v14 h10 =>
          ext v14 0 fun v15 =>
          asI .i64 v15 fun n9 =>
          ext v14 1 fun v16 =>
          asI .i64 v16 fun n10 =>
          ifB (not (eq n10 0)) (
            out .ret [(.bool false), gv ws0 1, gv ws0 2] h10) (
            asI .i64 (gv ws0 1) fun n11 =>
            asI .i64 (gv ws0 2) fun n12 =>
            out .normal [gv ws0 0, (.int .i64 (imax n11 n9)), (.int .i64 (add .i64 n12 1))] h10))))) (
    out (.exit 0) [gv ws0 0, gv ws0 1, gv ws0 2] h8)

noncomputable def f3 (rec : Rec) (k : Nat) (v0 : Value) (h0 : H) : Option (Value × H) :=
  calls rec h0 8 [v0] fun v1 h1 =>
  asB v1 fun q0 =>
  ifB (not q0) (
    calls rec h1 9 [] fun v2 h2 =>
    asB v2 fun q1 =>
    some ((.bool q1), h2)) (
    len v0 fun n0 =>
    ifB (lt 9 n0) (
      calls rec h1 9 [] fun v3 h3 =>
      asB v3 fun q2 =>
      some ((.bool q2), h3)) (
      calls rec h1 11 [v0] fun v4 h4 =>
      calls rec h4 10 [v4] fun v5 h5 =>
      ext v5 0 fun v6 =>
      ext v5 1 fun v7 =>
      asI .i64 v7 fun n1 =>
      calls rec h5 11 [v0] fun v8 h6 =>
      calls rec h6 12 [v8] fun v9 h7 =>
      ext v9 0 fun v10 =>
      asI .i64 v10 fun n2 =>
      ext v9 1 fun v11 =>
      asI .i64 v11 fun n3 =>
      ifB (not (eq n1 0)) (
        some ((.bool false), h7)) (
        ifB (not (eq n3 0)) (
          some ((.bool false), h7)) (
          len v6 fun n4 =>
          lp k (f3_l1 rec k v0 v6 n4) [(.bool false), (.int .i64 0), (.int .i64 0)] h7 fun e0 ws1 h11 =>
          onE e0 0 (
            asI .i64 (gv ws1 1) fun n13 =>
            ifB (eq n2 n13) (
              calls rec h11 9 [] fun v17 h12 =>
              asB v17 fun q3 =>
              some ((.bool q3), h12)) (
              some ((.bool false), h11))) (
            onR e0 (
              some (gv ws1 0, h11)))))))

theorem e3 (rec : Rec) (k : Nat) (v0 : Value) (h : H) : bodyT Tryd.prog E0 SC (XC Tryd.prog rec k) 3 (Value × H) [.opq v0] h (fun v h => some (v, h)) = f3 rec k v0 h := by kernel_rfl

theorem t3 {k : Nat} {v0 : Value} {h h1 : H} {v : Value} (hh : f3 rn k v0 h = some (v, h1)) : rn 3 #[v0] h = some (v, trunc Tryd.prog h h1 v) :=
  run_of_bodyT (args := [.opq v0]) rfl ((e3 _ _ _ _).trans hh)

theorem p3 {k : Nat} {v0 : Value} {h h1 : H} {v : Value} (hh : f3 rn k v0 h = some (v, h1)) (hp : plainO v = true) (x : Ext h h1) : rn 3 #[v0] h = some (v, h) := by rw [t3 hh, trunc_pure hp x]

theorem x3 {k : Nat} {v0 : Value} {h h1 : H} {v : Value} (hh : f3 rn k v0 h = some (v, h1)) (hp : plainO v = false) : ∃ h2, rn 3 #[v0] h = some (v, h2) ∧ Sm h1 h2 ∧ (Ext h h1 → Exw h h2) := trunc_cell hp (t3 hh)

noncomputable def f11 (rec : Rec) (_k : Nat) (v0 : Value) (h0 : H) : Option (Value × H) :=
  len v0 fun n0 =>
  sli Tryd.prog h0 23 v0 none (some (.int .i64 (imin n0 13))) none fun v1 =>
  calls rec h0 38 [v1] fun v2 h1 =>
  some (v2, h1)

theorem e11 (rec : Rec) (k : Nat) (v0 : Value) (h : H) : bodyT Tryd.prog E0 SC (XC Tryd.prog rec k) 11 (Value × H) [.opq v0] h (fun v h => some (v, h)) = f11 rec k v0 h := by kernel_rfl

theorem t11 {k : Nat} {v0 : Value} {h h1 : H} {v : Value} (hh : f11 rn k v0 h = some (v, h1)) : rn 11 #[v0] h = some (v, trunc Tryd.prog h h1 v) :=
  run_of_bodyT (args := [.opq v0]) rfl ((e11 _ _ _ _).trans hh)

theorem x11 {k : Nat} {v0 : Value} {h h1 : H} {v : Value} (hh : f11 rn k v0 h = some (v, h1)) (hp : plainO v = false) : ∃ h2, rn 11 #[v0] h = some (v, h2) ∧ Sm h1 h2 ∧ (Ext h h1 → Exw h h2) := trunc_cell hp (t11 hh)

noncomputable def f12 (rec : Rec) (_k : Nat) (v0 : Value) (h0 : H) : Option (Value × H) :=
  calls rec h0 39 [v0] fun v1 h1 =>
  ext v1 0 fun v2 =>
  ext v1 1 fun v3 =>
  asB v3 fun q0 =>
  ifB (not q0) (
    some ((.tuple #[(.int .i64 0), (.int .i64 2)]), h1)) (
    calls rec h1 40 [v2] fun v4 h2 =>
    asI .i64 v4 fun n0 =>
    some ((.tuple #[(.int .i64 n0), (.int .i64 0)]), h2))

theorem e12 (rec : Rec) (k : Nat) (v0 : Value) (h : H) : bodyT Tryd.prog E0 SC (XC Tryd.prog rec k) 12 (Value × H) [.opq v0] h (fun v h => some (v, h)) = f12 rec k v0 h := by kernel_rfl

theorem t12 {k : Nat} {v0 : Value} {h h1 : H} {v : Value} (hh : f12 rn k v0 h = some (v, h1)) : rn 12 #[v0] h = some (v, trunc Tryd.prog h h1 v) :=
  run_of_bodyT (args := [.opq v0]) rfl ((e12 _ _ _ _).trans hh)

theorem p12 {k : Nat} {v0 : Value} {h h1 : H} {v : Value} (hh : f12 rn k v0 h = some (v, h1)) (hp : plainO v = true) (x : Ext h h1) : rn 12 #[v0] h = some (v, h) := by rw [t12 hh, trunc_pure hp x]

theorem x12 {k : Nat} {v0 : Value} {h h1 : H} {v : Value} (hh : f12 rn k v0 h = some (v, h1)) (hp : plainO v = false) : ∃ h2, rn 12 #[v0] h = some (v, h2) ∧ Sm h1 h2 ∧ (Ext h h1 → Exw h h2) := trunc_cell hp (t12 hh)

noncomputable def f13_l2 (_rec : Rec) (_k : Nat) (n0 : Int) (n4 : Int) (n7 : Int) (ws1 : List Value) (h2 : H) : Option (Ex × List Value × H) :=
  asI .i64 (gv ws1 2) fun n8 =>
  ifB (lt n8 n7) (
    asK (gv ws1 2) fun n9 =>
    nn n9 (
      ifB (eq (and .i64 (shr .i64 n0 n9) 1) 1) (
        asK (gv ws1 2) fun n10 =>
        nn n10 (
          asK (gv ws1 1) fun n11 =>
          nn n11 (
            asI .i64 (gv ws1 0) fun n12 =>
            asI .i64 (gv ws1 1) fun n13 =>
            asI .i64 (gv ws1 2) fun n14 =>
            out .normal [(.int .i64 (or .i64 n12 (shl .i64 (and .i64 (shr .i64 n4 n10) 1) n11))), (.int .i64 (add .i64 n13 1)), (.int .i64 (add .i64 n14 1))] h2))) (
        asI .i64 (gv ws1 2) fun n15 =>
        out .normal [gv ws1 0, gv ws1 1, (.int .i64 (add .i64 n15 1))] h2))) (
    out (.exit 2) [gv ws1 0, gv ws1 1, gv ws1 2] h2)

noncomputable def f13_l1 (rec : Rec) (k : Nat) (v0 : Value) (n0 : Int) (n1 : Int) (ws0 : List Value) (h1 : H) : Option (Ex × List Value × H) :=
  asI .i64 (gv ws0 1) fun n2 =>
  ifB (lt n2 n1) (
    asK (gv ws0 1) fun n3 =>
    six v0 n3 1 fun b0 b1 =>
    ld Tryd.prog h1 3 b0 b1 fun v1 =>
    asI .i64 v1 fun n4 =>
    asK (gv ws0 1) fun n5 =>
    nn n5 (
      ifB (eq (and .i64 (shr .i64 n0 n5) 1) 0) (
        asI .i64 (gv ws0 1) fun n6 =>
        out .normal [gv ws0 0, (.int .i64 (add .i64 n6 1))] h1) (
        len v0 fun n7 =>
        lp k (f13_l2 rec k n0 n4 n7) [(.int .i64 0), (.int .i64 0), (.int .i64 0)] h1 fun e0 ws2 h3 =>
        onE e0 2 (
          bls Tryd.prog h3 23 1 [(0, gv ws2 0)] fun v2 h4 =>
          app Tryd.prog h4 23 23 (gv ws0 0) v2 fun v3 h5 =>
          asI .i64 (gv ws0 1) fun n16 =>
          out .normal [v3, (.int .i64 (add .i64 n16 1))] h5) (
          none)))) (
    out (.exit 0) [gv ws0 0, gv ws0 1] h1)

noncomputable def f13 (rec : Rec) (k : Nat) (v0 : Value) (n0 : Int) (h0 : H) : Option (Value × H) :=
  len v0 fun n1 =>
  lp k (f13_l1 rec k v0 n0 n1) [(.slice none 0 0), (.int .i64 0)] h0 fun e1 ws3 h6 =>
  onE e1 0 (
    some (gv ws3 0, h6)) (
    none)

theorem e13 (rec : Rec) (k : Nat) (v0 : Value) (n0 : Int) (h : H) : bodyT Tryd.prog E0 SC (XC Tryd.prog rec k) 13 (Value × H) [.opq v0, .int .i64 n0] h (fun v h => some (v, h)) = f13 rec k v0 n0 h := by kernel_rfl

theorem t13 {k : Nat} {v0 : Value} {n0 : Int} {h h1 : H} {v : Value} (hh : f13 rn k v0 n0 h = some (v, h1)) : rn 13 #[v0, .int .i64 n0] h = some (v, trunc Tryd.prog h h1 v) :=
  run_of_bodyT (args := [.opq v0, .int .i64 n0]) rfl ((e13 _ _ _ _ _).trans hh)

theorem x13 {k : Nat} {v0 : Value} {n0 : Int} {h h1 : H} {v : Value} (hh : f13 rn k v0 n0 h = some (v, h1)) (hp : plainO v = false) : ∃ h2, rn 13 #[v0, .int .i64 n0] h = some (v, h2) ∧ Sm h1 h2 ∧ (Ext h h1 → Exw h h2) := trunc_cell hp (t13 hh)

noncomputable def f39_l2 (_rec : Rec) (_k : Nat) (v0 : Value) (n0 : Int) (ws0 : List Value) (n4 : Int) (ws1 : List Value) (h2 : H) : Option (Ex × List Value × H) :=
  asI .i64 (gv ws1 2) fun n6 =>
  ifB (lt n6 n0) (
    asK (gv ws1 2) fun n7 =>
    nn n7 (
      asK (gv ws1 2) fun n8 =>
      six v0 n8 1 fun b2 b3 =>
      ld Tryd.prog h2 3 b2 b3 fun v2 =>
      asI .i64 v2 fun n9 =>
      asK (gv ws0 2) fun n10 =>
      nn n10 (
        ifB (not (eq (and .i64 (shr .i64 n4 n7) 1) (and .i64 (shr .i64 n9 n10) 1))) (
          out .ret [(.slice none 0 0), (.bool false), gv ws1 2] h2) (
          asI .i64 (gv ws1 2) fun n11 =>
          out .normal [gv ws1 0, gv ws1 1, (.int .i64 (add .i64 n11 1))] h2)))) (
    out (.exit 2) [gv ws1 0, gv ws1 1, gv ws1 2] h2)

noncomputable def f39_l1 (rec : Rec) (k : Nat) (v0 : Value) (n0 : Int) (n1 : Int) (ws0 : List Value) (h1 : H) : Option (Ex × List Value × H) :=
  asI .i64 (gv ws0 2) fun n2 =>
  ifB (lt n2 n1) (
    asK (gv ws0 2) fun n3 =>
    six v0 n3 1 fun b0 b1 =>
    ld Tryd.prog h1 3 b0 b1 fun v1 =>
    asI .i64 v1 fun n4 =>
    ifB (lt n4 0) (
      out .ret [(.slice none 0 0), (.bool false), gv ws0 2] h1) (
      nn n0 (
        ifB (le (shl .i64 1 n0) n4) (
          out .ret [(.slice none 0 0), (.bool false), gv ws0 2] h1) (
          asK (gv ws0 2) fun n5 =>
          nn n5 (
            ifB (eq (and .i64 (shr .i64 n4 n5) 1) 1) (
              out .ret [(.slice none 0 0), (.bool false), gv ws0 2] h1) (
              lp k (f39_l2 rec k v0 n0 ws0 n4) [gv ws0 0, gv ws0 1, (.int .i64 0)] h1 fun e0 ws2 h3 =>
              onE e0 2 (
                asI .i64 (gv ws0 2) fun n12 =>
                out .normal [gv ws2 0, gv ws2 1, (.int .i64 (add .i64 n12 1))] h3) (
                onR e0 (
                  out .ret [gv ws2 0, gv ws2 1, gv ws0 2] h3)))))))) (
    out (.exit 0) [gv ws0 0, gv ws0 1, gv ws0 2] h1)

noncomputable def f39 (rec : Rec) (k : Nat) (v0 : Value) (h0 : H) : Option (Value × H) :=
  len v0 fun n0 =>
  ifB (lt n0 1) (
    some ((.tuple #[(.slice none 0 0), (.bool false)]), h0)) (
    ifB (lt 9 n0) (
      some ((.tuple #[(.slice none 0 0), (.bool false)]), h0)) (
      len v0 fun n1 =>
      lp k (f39_l1 rec k v0 n0 n1) [(.slice none 0 0), (.bool false), (.int .i64 0)] h0 fun e1 ws3 h4 =>
      onE e1 0 (
        some ((.tuple #[v0, (.bool true)]), h4)) (
        onR e1 (
          some ((.tuple #[gv ws3 0, gv ws3 1]), h4)))))

theorem e39 (rec : Rec) (k : Nat) (v0 : Value) (h : H) : bodyT Tryd.prog E0 SC (XC Tryd.prog rec k) 39 (Value × H) [.opq v0] h (fun v h => some (v, h)) = f39 rec k v0 h := by kernel_rfl

theorem t39 {k : Nat} {v0 : Value} {h h1 : H} {v : Value} (hh : f39 rn k v0 h = some (v, h1)) : rn 39 #[v0] h = some (v, trunc Tryd.prog h h1 v) :=
  run_of_bodyT (args := [.opq v0]) rfl ((e39 _ _ _ _).trans hh)

theorem y39 {k : Nat} {v0 : Value} {h : H} {v : Value} (hh : f39 rn k v0 h = some (v, h)) : rn 39 #[v0] h = some (v, h) := by rw [t39 hh, trunc_self]

noncomputable def f40 (rec : Rec) (_k : Nat) (v0 : Value) (h0 : H) : Option (Value × H) :=
  calls rec h0 84 [v0] fun v1 h1 =>
  calls rec h1 85 [v0] fun v2 h2 =>
  asI .i64 v2 fun n0 =>
  six v1 n0 1 fun b0 b1 =>
  ld Tryd.prog h2 3 b0 b1 fun v3 =>
  asI .i64 v3 fun n1 =>
  some ((.int .i64 n1), h2)

theorem e40 (rec : Rec) (k : Nat) (v0 : Value) (h : H) : bodyT Tryd.prog E0 SC (XC Tryd.prog rec k) 40 (Value × H) [.opq v0] h (fun v h => some (v, h)) = f40 rec k v0 h := by kernel_rfl

theorem t40 {k : Nat} {v0 : Value} {h h1 : H} {v : Value} (hh : f40 rn k v0 h = some (v, h1)) : rn 40 #[v0] h = some (v, trunc Tryd.prog h h1 v) :=
  run_of_bodyT (args := [.opq v0]) rfl ((e40 _ _ _ _).trans hh)

theorem p40 {k : Nat} {v0 : Value} {h h1 : H} {v : Value} (hh : f40 rn k v0 h = some (v, h1)) (hp : plainO v = true) (x : Ext h h1) : rn 40 #[v0] h = some (v, h) := by rw [t40 hh, trunc_pure hp x]

noncomputable def f84_l2 (rec : Rec) (_k : Nat) (v0 : Value) (v1 : Value) (ws0 : List Value) (v2 : Value) (n5 : Int) (ws1 : List Value) (h5 : H) : Option (Ex × List Value × H) :=
  asI .i64 (gv ws1 0) fun n6 =>
  ifB (lt n6 n5) (
    asK (gv ws1 0) fun n7 =>
    six v2 n7 1 fun b2 b3 =>
    ld Tryd.prog h5 3 b2 b3 fun v3 =>
    asI .i64 v3 fun n8 =>
    asK (gv ws0 0) fun n9 =>
    six v1 n9 1 fun b4 b5 =>
    ld Tryd.prog h5 3 b4 b5 fun v4 =>
    asI .i64 v4 fun n10 =>
    nn n8 (
      asI .i64 (gv ws0 0) fun n11 =>
      six v1 (andNot .i64 n11 (shl .i64 1 n8)) 1 fun b6 b7 =>
      ld Tryd.prog h5 3 b6 b7 fun v5 =>
      asI .i64 v5 fun n12 =>
      nn n8 (
        asI .i64 (gv ws0 0) fun n13 =>
        calls rec h5 109 [v0, (.int .i64 n8), (.int .i64 (andNot .i64 n13 (shl .i64 1 n8)))] fun v6 h6 =>
        asI .i64 v6 fun n14 =>
        ck (freq b6 (nx h5) (same h6 h5)) (
          ck (freq b4 (nx h5) (same h6 h5)) (
            asK (gv ws0 0) fun n15 =>
            six v1 n15 1 fun b8 b9 =>
            st Tryd.prog h6 3 b8 b9 (.int .i64 (imin n10 (imax n12 n14))) fun h7 =>
            asI .i64 (gv ws1 0) fun n16 =>
            out .normal [(.int .i64 (add .i64 n16 1))] h7))))) (
    out (.exit 2) [gv ws1 0] h5)

noncomputable def f84_l1 (rec : Rec) (k : Nat) (v0 : Value) (v1 : Value) (ws0 : List Value) (h2 : H) : Option (Ex × List Value × H) :=
  len v1 fun n1 =>
  asI .i64 (gv ws0 0) fun n2 =>
  ifB (lt n2 n1) (
    len v0 fun n3 =>
    asK (gv ws0 0) fun n4 =>
    six v1 n4 1 fun b0 b1 =>
    st Tryd.prog h2 3 b0 b1 (.int .i64 n3) fun h3 =>
    calls rec h3 108 [gv ws0 0] fun v2 h4 =>
    len v2 fun n5 =>
    lp k (f84_l2 rec k v0 v1 ws0 v2 n5) [(.int .i64 0)] h4 fun e0 _ h8 =>
    onE e0 2 (
      asI .i64 (gv ws0 0) fun n17 =>
      out .normal [(.int .i64 (add .i64 n17 1))] h8) (
      none)) (
    out (.exit 0) [gv ws0 0] h2)

noncomputable def f84 (rec : Rec) (k : Nat) (v0 : Value) (h0 : H) : Option (Value × H) :=
  len v0 fun n0 =>
  nn n0 (
    mks Tryd.prog h0 22 (shl .i64 1 n0) (shl .i64 1 n0) fun v1 h1 =>
    lp k (f84_l1 rec k v0 v1) [(.int .i64 1)] h1 fun e1 _ h9 =>
    onE e1 0 (
      some (v1, h9)) (
      none))

theorem e84 (rec : Rec) (k : Nat) (v0 : Value) (h : H) : bodyT Tryd.prog E0 SC (XC Tryd.prog rec k) 84 (Value × H) [.opq v0] h (fun v h => some (v, h)) = f84 rec k v0 h := by kernel_rfl

theorem t84 {k : Nat} {v0 : Value} {h h1 : H} {v : Value} (hh : f84 rn k v0 h = some (v, h1)) : rn 84 #[v0] h = some (v, trunc Tryd.prog h h1 v) :=
  run_of_bodyT (args := [.opq v0]) rfl ((e84 _ _ _ _).trans hh)

theorem x84 {k : Nat} {v0 : Value} {h h1 : H} {v : Value} (hh : f84 rn k v0 h = some (v, h1)) (hp : plainO v = false) : ∃ h2, rn 84 #[v0] h = some (v, h2) ∧ Sm h1 h2 ∧ (Ext h h1 → Exw h h2) := trunc_cell hp (t84 hh)

noncomputable def f85 (_rec : Rec) (_k : Nat) (v0 : Value) (h0 : H) : Option (Value × H) :=
  len v0 fun n0 =>
  nn n0 (
    some ((.int .i64 (sub .i64 (shl .i64 1 n0) 1)), h0))

theorem e85 (rec : Rec) (k : Nat) (v0 : Value) (h : H) : bodyT Tryd.prog E0 SC (XC Tryd.prog rec k) 85 (Value × H) [.opq v0] h (fun v h => some (v, h)) = f85 rec k v0 h := by kernel_rfl

theorem t85 {k : Nat} {v0 : Value} {h h1 : H} {v : Value} (hh : f85 rn k v0 h = some (v, h1)) : rn 85 #[v0] h = some (v, trunc Tryd.prog h h1 v) :=
  run_of_bodyT (args := [.opq v0]) rfl ((e85 _ _ _ _).trans hh)

theorem p85 {k : Nat} {v0 : Value} {h h1 : H} {v : Value} (hh : f85 rn k v0 h = some (v, h1)) (hp : plainO v = true) (x : Ext h h1) : rn 85 #[v0] h = some (v, h) := by rw [t85 hh, trunc_pure hp x]

noncomputable def f108_l1 (rec : Rec) (_k : Nat)  (ws0 : List Value) (h1 : H) : Option (Ex × List Value × H) :=
  asI .i64 (gv ws0 1) fun n1 =>
  ifB (not (eq n1 0)) (
    asI .i64 (gv ws0 1) fun n2 =>
    calls rec h1 79 [(.int .u64 (wr .u64 n2))] fun v0 h2 =>
    asI .i64 v0 fun n3 =>
    bls Tryd.prog h2 22 1 [(0, (.int .i64 n3))] fun v1 h3 =>
    app Tryd.prog h3 22 22 (gv ws0 0) v1 fun v2 h4 =>
    asI .i64 (gv ws0 1) fun n4 =>
    asI .i64 (gv ws0 1) fun n5 =>
    out .normal [v2, (.int .i64 (and .i64 n5 (sub .i64 n4 1)))] h4) (
    out (.exit 0) [gv ws0 0, gv ws0 1] h1)

noncomputable def f108 (rec : Rec) (k : Nat) (n0 : Int) (h0 : H) : Option (Value × H) :=
  lp k (f108_l1 rec k) [(.slice none 0 0), (.int .i64 n0)] h0 fun e0 ws1 h5 =>
  onE e0 0 (
    some (gv ws1 0, h5)) (
    none)

theorem e108 (rec : Rec) (k : Nat) (n0 : Int) (h : H) : bodyT Tryd.prog E0 SC (XC Tryd.prog rec k) 108 (Value × H) [.int .i64 n0] h (fun v h => some (v, h)) = f108 rec k n0 h := by kernel_rfl

theorem t108 {k : Nat} {n0 : Int} {h h1 : H} {v : Value} (hh : f108 rn k n0 h = some (v, h1)) : rn 108 #[.int .i64 n0] h = some (v, trunc Tryd.prog h h1 v) :=
  run_of_bodyT (args := [.int .i64 n0]) rfl ((e108 _ _ _ _).trans hh)

theorem x108 {k : Nat} {n0 : Int} {h h1 : H} {v : Value} (hh : f108 rn k n0 h = some (v, h1)) (hp : plainO v = false) : ∃ h2, rn 108 #[.int .i64 n0] h = some (v, h2) ∧ Sm h1 h2 ∧ (Ext h h1 → Exw h h2) := trunc_cell hp (t108 hh)

noncomputable def f109 (rec : Rec) (_k : Nat) (v0 : Value) (n0 : Int) (n1 : Int) (h0 : H) : Option (Value × H) :=
  nn n0 (
    nn n0 (
      calls rec h0 119 [v0, (.int .i64 (shl .i64 1 n0)), (.int .i64 (or .i64 n1 (shl .i64 1 n0)))] fun v1 h1 =>
      asI .i64 v1 fun n2 =>
      calls rec h1 118 [v0, (.int .i64 n2)] fun v2 h2 =>
      asI .i64 v2 fun n3 =>
      nn n0 (
        calls rec h2 117 [(.int .i64 (andNot .i64 (andNot .i64 n3 n1) (shl .i64 1 n0)))] fun v3 h3 =>
        asI .i64 v3 fun n4 =>
        some ((.int .i64 n4), h3))))

theorem e109 (rec : Rec) (k : Nat) (v0 : Value) (n0 : Int) (n1 : Int) (h : H) : bodyT Tryd.prog E0 SC (XC Tryd.prog rec k) 109 (Value × H) [.opq v0, .int .i64 n0, .int .i64 n1] h (fun v h => some (v, h)) = f109 rec k v0 n0 n1 h := by kernel_rfl

theorem t109 {k : Nat} {v0 : Value} {n0 : Int} {n1 : Int} {h h1 : H} {v : Value} (hh : f109 rn k v0 n0 n1 h = some (v, h1)) : rn 109 #[v0, .int .i64 n0, .int .i64 n1] h = some (v, trunc Tryd.prog h h1 v) :=
  run_of_bodyT (args := [.opq v0, .int .i64 n0, .int .i64 n1]) rfl ((e109 _ _ _ _ _ _).trans hh)

theorem p109 {k : Nat} {v0 : Value} {n0 : Int} {n1 : Int} {h h1 : H} {v : Value} (hh : f109 rn k v0 n0 n1 h = some (v, h1)) (hp : plainO v = true) (x : Ext h h1) : rn 109 #[v0, .int .i64 n0, .int .i64 n1] h = some (v, h) := by rw [t109 hh, trunc_pure hp x]

noncomputable def f117 (rec : Rec) (_k : Nat) (n0 : Int) (h0 : H) : Option (Value × H) :=
  calls rec h0 64 [(.int .u64 (wr .u64 n0))] fun v0 h1 =>
  asI .i64 v0 fun n1 =>
  some ((.int .i64 n1), h1)

theorem e117 (rec : Rec) (k : Nat) (n0 : Int) (h : H) : bodyT Tryd.prog E0 SC (XC Tryd.prog rec k) 117 (Value × H) [.int .i64 n0] h (fun v h => some (v, h)) = f117 rec k n0 h := by kernel_rfl

theorem t117 {k : Nat} {n0 : Int} {h h1 : H} {v : Value} (hh : f117 rn k n0 h = some (v, h1)) : rn 117 #[.int .i64 n0] h = some (v, trunc Tryd.prog h h1 v) :=
  run_of_bodyT (args := [.int .i64 n0]) rfl ((e117 _ _ _ _).trans hh)

theorem p117 {k : Nat} {n0 : Int} {h h1 : H} {v : Value} (hh : f117 rn k n0 h = some (v, h1)) (hp : plainO v = true) (x : Ext h h1) : rn 117 #[.int .i64 n0] h = some (v, h) := by rw [t117 hh, trunc_pure hp x]

noncomputable def f118_l1 (_rec : Rec) (_k : Nat) (v0 : Value) (v1 : Value) (n1 : Int) (ws0 : List Value) (h2 : H) : Option (Ex × List Value × H) :=
  asI .i64 (gv ws0 1) fun n2 =>
  ifB (lt n2 n1) (
    asK (gv ws0 1) fun n3 =>
    six v1 n3 1 fun b0 b1 =>
    ld Tryd.prog h2 3 b0 b1 fun v2 =>
    asI .i64 v2 fun n4 =>
    six v0 n4 1 fun b2 b3 =>
    ld Tryd.prog h2 3 b2 b3 fun v3 =>
    asI .i64 v3 fun n5 =>
    asI .i64 (gv ws0 0) fun n6 =>
    asI .i64 (gv ws0 1) fun n7 =>
    out .normal [(.int .i64 (or .i64 n6 n5)), (.int .i64 (add .i64 n7 1))] h2) (
    out (.exit 0) [gv ws0 0, gv ws0 1] h2)

noncomputable def f118 (rec : Rec) (k : Nat) (v0 : Value) (n0 : Int) (h0 : H) : Option (Value × H) :=
  calls rec h0 108 [(.int .i64 n0)] fun v1 h1 =>
  len v1 fun n1 =>
  lp k (f118_l1 rec k v0 v1 n1) [(.int .i64 0), (.int .i64 0)] h1 fun e0 ws1 h3 =>
  onE e0 0 (
    some (gv ws1 0, h3)) (
    none)

theorem e118 (rec : Rec) (k : Nat) (v0 : Value) (n0 : Int) (h : H) : bodyT Tryd.prog E0 SC (XC Tryd.prog rec k) 118 (Value × H) [.opq v0, .int .i64 n0] h (fun v h => some (v, h)) = f118 rec k v0 n0 h := by kernel_rfl

theorem t118 {k : Nat} {v0 : Value} {n0 : Int} {h h1 : H} {v : Value} (hh : f118 rn k v0 n0 h = some (v, h1)) : rn 118 #[v0, .int .i64 n0] h = some (v, trunc Tryd.prog h h1 v) :=
  run_of_bodyT (args := [.opq v0, .int .i64 n0]) rfl ((e118 _ _ _ _ _).trans hh)

theorem p118 {k : Nat} {v0 : Value} {n0 : Int} {h h1 : H} {v : Value} (hh : f118 rn k v0 n0 h = some (v, h1)) (hp : plainO v = true) (x : Ext h h1) : rn 118 #[v0, .int .i64 n0] h = some (v, h) := by rw [t118 hh, trunc_pure hp x]

noncomputable def f119_l1 (rec : Rec) (_k : Nat) (v0 : Value) (n1 : Int) (ws0 : List Value) (h1 : H) : Option (Ex × List Value × H) :=
  calls rec h1 118 [v0, gv ws0 1] fun v1 h2 =>
  asI .i64 v1 fun n2 =>
  asI .i64 (gv ws0 1) fun n3 =>
  asI .i64 (gv ws0 1) fun n4 =>
  ifB (eq (or .i64 n3 (and .i64 n2 n1)) n4) (
    out .ret [gv ws0 1, gv ws0 1] h2) (
    out .normal [gv ws0 0, (.int .i64 (or .i64 n3 (and .i64 n2 n1)))] h2)

noncomputable def f119 (rec : Rec) (k : Nat) (v0 : Value) (n0 : Int) (n1 : Int) (h0 : H) : Option (Value × H) :=
  lp k (f119_l1 rec k v0 n1) [(.int .i64 0), (.int .i64 n0)] h0 fun e0 ws1 h3 =>
  onR e0 (
    some (gv ws1 0, h3))

theorem e119 (rec : Rec) (k : Nat) (v0 : Value) (n0 : Int) (n1 : Int) (h : H) : bodyT Tryd.prog E0 SC (XC Tryd.prog rec k) 119 (Value × H) [.opq v0, .int .i64 n0, .int .i64 n1] h (fun v h => some (v, h)) = f119 rec k v0 n0 n1 h := by kernel_rfl

theorem t119 {k : Nat} {v0 : Value} {n0 : Int} {n1 : Int} {h h1 : H} {v : Value} (hh : f119 rn k v0 n0 n1 h = some (v, h1)) : rn 119 #[v0, .int .i64 n0, .int .i64 n1] h = some (v, trunc Tryd.prog h h1 v) :=
  run_of_bodyT (args := [.opq v0, .int .i64 n0, .int .i64 n1]) rfl ((e119 _ _ _ _ _ _).trans hh)

theorem p119 {k : Nat} {v0 : Value} {n0 : Int} {n1 : Int} {h h1 : H} {v : Value} (hh : f119 rn k v0 n0 n1 h = some (v, h1)) (hp : plainO v = true) (x : Ext h h1) : rn 119 #[v0, .int .i64 n0, .int .i64 n1] h = some (v, h) := by rw [t119 hh, trunc_pure hp x]

end Go.AM

end

section

/- The staged forms of functions 16, 81, 42, 77, 76, 106, 107, 116, and what calls of these answer. -/
namespace Go.AM
open Go.Proofs
noncomputable def f16 (rec : Rec) (_k : Nat) (v0 : Value) (h0 : H) : Option (Value × H) :=
  calls rec h0 36 [v0] fun v1 h1 =>
  ext v1 0 fun v2 =>
  ext v1 1 fun v3 =>
  asB v3 fun q0 =>
  ifB (not q0) (
    some ((.tuple #[(.int .i64 0), (.int .i64 2)]), h1)) (
    calls rec h1 43 [v2] fun v4 h2 =>
    asI .i64 v4 fun n0 =>
    calls rec h2 42 [v2, (.int .i64 n0)] fun v5 h3 =>
    asI .i64 v5 fun n1 =>
    some ((.tuple #[(.int .i64 n1), (.int .i64 0)]), h3))

theorem e16 (rec : Rec) (k : Nat) (v0 : Value) (h : H) : bodyT Tryd.prog E0 SC (XC Tryd.prog rec k) 16 (Value × H) [.opq v0] h (fun v h => some (v, h)) = f16 rec k v0 h := by kernel_rfl

theorem t16 {k : Nat} {v0 : Value} {h h1 : H} {v : Value} (hh : f16 rn k v0 h = some (v, h1)) : rn 16 #[v0] h = some (v, trunc Tryd.prog h h1 v) :=
  run_of_bodyT (args := [.opq v0]) rfl ((e16 _ _ _ _).trans hh)

theorem x16 {k : Nat} {v0 : Value} {h h1 : H} {v : Value} (hh : f16 rn k v0 h = some (v, h1)) (hp : plainO v = false) : ∃ h2, rn 16 #[v0] h = some (v, h2) ∧ Sm h1 h2 ∧ (Ext h h1 → Exw h h2) := trunc_cell hp (t16 hh)

noncomputable def f81 (rec : Rec) (_k : Nat) (v0 : Value) (h0 : H) : Option (Value × H) :=
  bx h0 72 v0 fun h1 =>
  ld Tryd.prog h1 72 (nx h0) 0 fun v1 =>
  calls rec h1 77 [v1] fun v2 h2 =>
  calls rec h2 106 [v2, (.func (.func 107) #[] #[(pt (nx h0) 0)])] fun v3 h3 =>
  some (v3, h3)

theorem e81 (rec : Rec) (k : Nat) (v0 : Value) (h : H) : bodyT Tryd.prog E0 SC (XC Tryd.prog rec k) 81 (Value × H) [.opq v0] h (fun v h => some (v, h)) = f81 rec k v0 h := by kernel_rfl

theorem t81 {k : Nat} {v0 : Value} {h h1 : H} {v : Value} (hh : f81 rn k v0 h = some (v, h1)) : rn 81 #[v0] h = some (v, trunc Tryd.prog h h1 v) :=
  run_of_bodyT (args := [.opq v0]) rfl ((e81 _ _ _ _).trans hh)

theorem x81 {k : Nat} {v0 : Value} {h h1 : H} {v : Value} (hh : f81 rn k v0 h = some (v, h1)) (hp : plainO v = false) : ∃ h2, rn 81 #[v0] h = some (v, h2) ∧ Sm h1 h2 ∧ (Ext h h1 → Exw h h2) := trunc_cell hp (t81 hh)

noncomputable def f42_l1 (rec : Rec) (_k : Nat) (v0 : Value) (n0 : Int) (v1 : Value) (n1 : Int) (ws0 : List Value) (h2 : H) : Option (Ex × List Value × H) :=
  asI .i64 (gv ws0 1) fun n2 =>
  ifB (lt n2 n1) (
    asK (gv ws0 1) fun n3 =>
    six v1 n3 1 fun b0 b1 =>
    ld Tryd.prog h2 3 b0 b1 fun v2 =>
    asI .i64 v2 fun n4 =>
    calls rec h2 72 [v0, (.int .i64 n4), (.int .i64 n0)] fun v3 h3 =>
    asI .i64 v3 fun n5 =>
    nn n4 (
      calls rec h3 44 [v0, (.int .i64 (andNot .i64 n5 (shl .i64 1 n4)))] fun v4 h4 =>
      asB v4 fun q0 =>
      ifB (not q0) (
        nn n4 (
          asI .i64 (gv ws0 0) fun n6 =>
          asI .i64 (gv ws0 1) fun n7 =>
          out .normal [(.int .i64 (or .i64 n6 (shl .i64 1 n4))), (.int .i64 (add .i64 n7 1))] h4)) (
        asI .i64 (gv ws0 1) fun n8 =>
        out .normal [gv ws0 0, (.int .i64 (add .i64 n8 1))] h4))) (
    out (.exit 0) [gv ws0 0, gv ws0 1] h2)

noncomputable def f42 (rec : Rec) (k : Nat) (v0 : Value) (n0 : Int) (h0 : H) : Option (Value × H) :=
  calls rec h0 54 [(.int .i64 n0)] fun v1 h1 =>
  len v1 fun n1 =>
  lp k (f42_l1 rec k v0 n0 v1 n1) [(.int .i64 0), (.int .i64 0)] h1 fun e0 ws1 h5 =>
  onE e0 0 (
    some (gv ws1 0, h5)) (
    none)

theorem e42 (rec : Rec) (k : Nat) (v0 : Value) (n0 : Int) (h : H) : bodyT Tryd.prog E0 SC (XC Tryd.prog rec k) 42 (Value × H) [.opq v0, .int .i64 n0] h (fun v h => some (v, h)) = f42 rec k v0 n0 h := by kernel_rfl

theorem t42 {k : Nat} {v0 : Value} {n0 : Int} {h h1 : H} {v : Value} (hh : f42 rn k v0 n0 h = some (v, h1)) : rn 42 #[v0, .int .i64 n0] h = some (v, trunc Tryd.prog h h1 v) :=
  run_of_bodyT (args := [.opq v0, .int .i64 n0]) rfl ((e42 _ _ _ _ _).trans hh)

theorem p42 {k : Nat} {v0 : Value} {n0 : Int} {h h1 : H} {v : Value} (hh : f42 rn k v0 n0 h = some (v, h1)) (hp : plainO v = true) (x : Ext h h1) : rn 42 #[v0, .int .i64 n0] h = some (v, h) := by rw [t42 hh, trunc_pure hp x]

noncomputable def f77_l2 (_rec : Rec) (_k : Nat) (ws0 : List Value) (v2 : Value) (n4 : Int) (ws1 : List Value) (h3 : H) : Option (Ex × List Value × H) :=
  asI .i64 (gv ws1 1) fun n5 =>
  ifB (lt n5 n4) (
    asK (gv ws1 1) fun n6 =>
    six v2 n6 1 fun b2 b3 =>
    ld Tryd.prog h3 3 b2 b3 fun v3 =>
    asI .i64 v3 fun n7 =>
    asI .i64 (gv ws0 1) fun n8 =>
    ifB (lt n8 n7) (
      bld Tryd.prog 83 [(0, gv ws0 1), (1, (.int .i64 n7))] fun v4 =>
      bls Tryd.prog h3 33 1 [(0, v4)] fun v5 h4 =>
      app Tryd.prog h4 33 33 (gv ws1 0) v5 fun v6 h5 =>
      asI .i64 (gv ws1 1) fun n9 =>
      out .normal [v6, (.int .i64 (add .i64 n9 1))] h5) (
      asI .i64 (gv ws1 1) fun n10 =>
      out .normal [gv ws1 0, (.int .i64 (add .i64 n10 1))] h3)) (
    out (.exit 2) [gv ws1 0, gv ws1 1] h3)

noncomputable def f77_l1 (rec : Rec) (k : Nat) (v0 : Value) (n0 : Int) (ws0 : List Value) (h1 : H) : Option (Ex × List Value × H) :=
  asI .i64 (gv ws0 1) fun n1 =>
  ifB (lt n1 n0) (
    asK (gv ws0 1) fun n2 =>
    six v0 n2 1 fun b0 b1 =>
    ld Tryd.prog h1 3 b0 b1 fun v1 =>
    asI .i64 v1 fun n3 =>
    calls rec h1 54 [(.int .i64 n3)] fun v2 h2 =>
    len v2 fun n4 =>
    lp k (f77_l2 rec k ws0 v2 n4) [gv ws0 0, (.int .i64 0)] h2 fun e0 ws2 h6 =>
    onE e0 2 (
      asI .i64 (gv ws0 1) fun n11 =>
      out .normal [gv ws2 0, (.int .i64 (add .i64 n11 1))] h6) (
      none)) (
    out (.exit 0) [gv ws0 0, gv ws0 1] h1)

noncomputable def f77 (rec : Rec) (k : Nat) (v0 : Value) (h0 : H) : Option (Value × H) :=
  len v0 fun n0 =>
  lp k (f77_l1 rec k v0 n0) [(.slice none 0 0), (.int .i64 0)] h0 fun e1 ws3 h7 =>
  onE e1 0 (
    some (gv ws3 0, h7)) (
    none)

theorem e77 (rec : Rec) (k : Nat) (v0 : Value) (h : H) : bodyT Tryd.prog E0 SC (XC Tryd.prog rec k) 77 (Value × H) [.opq v0] h (fun v h => some (v, h)) = f77 rec k v0 h := by kernel_rfl

theorem t77 {k : Nat} {v0 : Value} {h h1 : H} {v : Value} (hh : f77 rn k v0 h = some (v, h1)) : rn 77 #[v0] h = some (v, trunc Tryd.prog h h1 v) :=
  run_of_bodyT (args := [.opq v0]) rfl ((e77 _ _ _ _).trans hh)

theorem x77 {k : Nat} {v0 : Value} {h h1 : H} {v : Value} (hh : f77 rn k v0 h = some (v, h1)) (hp : plainO v = false) : ∃ h2, rn 77 #[v0] h = some (v, h2) ∧ Sm h1 h2 ∧ (Ext h h1 → Exw h h2) := trunc_cell hp (t77 hh)

noncomputable def f76 (rec : Rec) (_k : Nat) (v0 : Value) (v1 : Value) (h0 : H) : Option (Value × H) :=
  bx h0 83 v1 fun h1 =>
  calls rec h1 74 [v0] fun v2 h2 =>
  aix 2 0 (
    ld Tryd.prog h2 3 (nx h0) (at_ 0 0 1) fun v3 =>
    asI .i64 v3 fun n0 =>
    six v2 n0 1 fun b0 b1 =>
    ld Tryd.prog h2 3 b0 b1 fun v4 =>
    asI .i64 v4 fun n1 =>
    aix 2 1 (
      ld Tryd.prog h2 3 (nx h0) (at_ 0 1 1) fun v5 =>
      asI .i64 v5 fun n2 =>
      nn n2 (
        six v2 n0 1 fun b2 b3 =>
        st Tryd.prog h2 3 b2 b3 (.int .i64 (andNot .i64 n1 (shl .i64 1 n2))) fun h3 =>
        aix 2 1 (
          ld Tryd.prog h3 3 (nx h0) (at_ 0 1 1) fun v6 =>
          asI .i64 v6 fun n3 =>
          six v2 n3 1 fun b4 b5 =>
          ld Tryd.prog h3 3 b4 b5 fun v7 =>
          asI .i64 v7 fun n4 =>
          aix 2 0 (
            ld Tryd.prog h3 3 (nx h0) (at_ 0 0 1) fun v8 =>
            asI .i64 v8 fun n5 =>
            nn n5 (
              six v2 n3 1 fun b6 b7 =>
              st Tryd.prog h3 3 b6 b7 (.int .i64 (andNot .i64 n4 (shl .i64 1 n5))) fun h4 =>
              some (v2, h4)))))))

theorem e76 (rec : Rec) (k : Nat) (v0 : Value) (v1 : Value) (h : H) : bodyT Tryd.prog E0 SC (XC Tryd.prog rec k) 76 (Value × H) [.opq v0, .opq v1] h (fun v h => some (v, h)) = f76 rec k v0 v1 h := by kernel_rfl

theorem t76 {k : Nat} {v0 : Value} {v1 : Value} {h h1 : H} {v : Value} (hh : f76 rn k v0 v1 h = some (v, h1)) : rn 76 #[v0, v1] h = some (v, trunc Tryd.prog h h1 v) :=
  run_of_bodyT (args := [.opq v0, .opq v1]) rfl ((e76 _ _ _ _ _).trans hh)

theorem x76 {k : Nat} {v0 : Value} {v1 : Value} {h h1 : H} {v : Value} (hh : f76 rn k v0 v1 h = some (v, h1)) (hp : plainO v = false) : ∃ h2, rn 76 #[v0, v1] h = some (v, h2) ∧ Sm h1 h2 ∧ (Ext h h1 → Exw h h2) := trunc_cell hp (t76 hh)

noncomputable def f106_l1 (rec : Rec) (_k : Nat) (v0 : Value) (v1 : Value) (ws0 : List Value) (h2 : H) : Option (Ex × List Value × H) :=
  len v0 fun n1 =>
  asI .i64 (gv ws0 1) fun n2 =>
  ifB (lt n2 n1) (
    asK (gv ws0 1) fun n3 =>
    six v0 n3 2 fun b0 b1 =>
    ld Tryd.prog h2 83 b0 b1 fun v3 =>
    al h2 83 [(.int .i64 0), (.int .i64 0)] fun h3 =>
    st Tryd.prog h3 83 (nx h2) 0 v3 fun h4 =>
    ld Tryd.prog h4 83 (nx h2) 0 fun v4 =>
    callsV rec h4 v1 [v4] fun v5 h5 =>
    asB v5 fun q0 =>
    ifB (not q0) (
      ld Tryd.prog h5 83 (nx h2) 0 fun v6 =>
      asK (gv ws0 0) fun n4 =>
      six v0 n4 2 fun b2 b3 =>
      st Tryd.prog h5 83 b2 b3 v6 fun h6 =>
      asI .i64 (gv ws0 0) fun n5 =>
      asI .i64 (gv ws0 1) fun n6 =>
      out .normal [(.int .i64 (add .i64 n5 1)), (.int .i64 (add .i64 n6 1))] h6) (
      asI .i64 (gv ws0 1) fun n7 =>
      out .normal [gv ws0 0, (.int .i64 (add .i64 n7 1))] h5)) (
    out (.exit 0) [gv ws0 0, gv ws0 1] h2)

noncomputable def f106 (rec : Rec) (k : Nat) (v0 : Value) (v1 : Value) (h0 : H) : Option (Value × H) :=
  calls rec h0 116 [v0, v1] fun v2 h1 =>
  asI .i64 v2 fun n0 =>
  ifB (eq n0 (-1)) (
    some (v0, h1)) (
    lp k (f106_l1 rec k v0 v1) [(.int .i64 n0), (.int .i64 (add .i64 n0 1))] h1 fun e0 ws1 h7 =>
    onE e0 0 (
      sli Tryd.prog h7 33 v0 (some (gv ws1 0)) none none fun v7 =>
      clr Tryd.prog h7 33 v7 fun h8 =>
      sli Tryd.prog h8 33 v0 none (some (gv ws1 0)) none fun v8 =>
      some (v8, h8)) (
      none))

theorem e106 (rec : Rec) (k : Nat) (v0 : Value) (v1 : Value) (h : H) : bodyT Tryd.prog E0 SC (XC Tryd.prog rec k) 106 (Value × H) [.opq v0, .opq v1] h (fun v h => some (v, h)) = f106 rec k v0 v1 h := by kernel_rfl

theorem t106 {k : Nat} {v0 : Value} {v1 : Value} {h h1 : H} {v : Value} (hh : f106 rn k v0 v1 h = some (v, h1)) : rn 106 #[v0, v1] h = some (v, trunc Tryd.prog h h1 v) :=
  run_of_bodyT (args := [.opq v0, .opq v1]) rfl ((e106 _ _ _ _ _).trans hh)

theorem x106 {k : Nat} {v0 : Value} {v1 : Value} {h h1 : H} {v : Value} (hh : f106 rn k v0 v1 h = some (v, h1)) (hp : plainO v = false) : ∃ h2, rn 106 #[v0, v1] h = some (v, h2) ∧ Sm h1 h2 ∧ (Ext h h1 → Exw h h2) := trunc_cell hp (t106 hh)

theorem y106 {k : Nat} {v0 : Value} {v1 : Value} {h : H} {v : Value} (hh : f106 rn k v0 v1 h = some (v, h)) : rn 106 #[v0, v1] h = some (v, h) := by rw [t106 hh, trunc_self]

noncomputable def f107 (rec : Rec) (_k : Nat) (v0 : Value) (v1 : Value) (h0 : H) : Option (Value × H) :=
  bx h0 83 v0 fun h1 =>
  asP v1 fun b0 b1 =>
  ld Tryd.prog h1 72 b0 b1 fun v2 =>
  ld Tryd.prog h1 83 (nx h0) 0 fun v3 =>
  calls rec h1 76 [v2, v3] fun v4 h2 =>
  aix 2 0 (
    ld Tryd.prog h2 3 (nx h0) (at_ 0 0 1) fun v5 =>
    asI .i64 v5 fun n0 =>
    calls rec h2 43 [v4] fun v6 h3 =>
    asI .i64 v6 fun n1 =>
    ck (freq (nx h0) (nx h2) (same h3 h2)) (
      calls rec h3 72 [v4, (.int .i64 n0), (.int .i64 n1)] fun v7 h4 =>
      asI .i64 v7 fun n2 =>
      aix 2 1 (
        ld Tryd.prog h4 3 (nx h0) (at_ 0 1 1) fun v8 =>
        asI .i64 v8 fun n3 =>
        ck (freq (nx h0) (nx h3) (same h4 h3)) (
          ck (freq (nx h0) (nx h2) (same h3 h2)) (
            nn n3 (
              some ((.bool (eq (and .i64 (shr .i64 n2 n3) 1) 1)), h4)))))))

theorem e107 (rec : Rec) (k : Nat) (v0 : Value) (v1 : Value) (h : H) : bodyT Tryd.prog E0 SC (XC Tryd.prog rec k) 107 (Value × H) [.opq v0, .opq v1] h (fun v h => some (v, h)) = f107 rec k v0 v1 h := by kernel_rfl

theorem t107 {k : Nat} {v0 : Value} {v1 : Value} {h h1 : H} {v : Value} (hh : f107 rn k v0 v1 h = some (v, h1)) : rn 107 #[v0, v1] h = some (v, trunc Tryd.prog h h1 v) :=
  run_of_bodyT (args := [.opq v0, .opq v1]) rfl ((e107 _ _ _ _ _).trans hh)

theorem p107 {k : Nat} {v0 : Value} {v1 : Value} {h h1 : H} {v : Value} (hh : f107 rn k v0 v1 h = some (v, h1)) (hp : plainO v = true) (x : Ext h h1) : rn 107 #[v0, v1] h = some (v, h) := by rw [t107 hh, trunc_pure hp x]

noncomputable def f116_l1 (rec : Rec) (_k : Nat) (v0 : Value) (v1 : Value) (n0 : Int) (ws0 : List Value) (h1 : H) : Option (Ex × List Value × H) :=
  asI .i64 (gv ws0 1) fun n1 =>
  ifB (lt n1 n0) (
    asK (gv ws0 1) fun n2 =>
    six v0 n2 2 fun b0 b1 =>
    ld Tryd.prog h1 83 b0 b1 fun v2 =>
    callsV rec h1 v1 [v2] fun v3 h2 =>
    asB v3 fun q0 =>
    ifB q0 (
      out .ret [gv ws0 1, gv ws0 1] h2) (
      asI .i64 (gv ws0 1) fun n3 =>
      out .normal [gv ws0 0, (.int .i64 (add .i64 n3 1))] h2)) (
    out (.exit 0) [gv ws0 0, gv ws0 1] h1)

noncomputable def f116 (rec : Rec) (k : Nat) (v0 : Value) (v1 : Value) (h0 : H) : Option (Value × H) :=
  len v0 fun n0 =>
  lp k (f116_l1 rec k v0 v1 n0) [(.int .i64 0), (.int .i64 0)] h0 fun e0 ws1 h3 =>
  onE e0 0 (
    some ((.int .i64 (-1)), h3)) (
    onR e0 (
      some (gv ws1 0, h3)))

theorem e116 (rec : Rec) (k : Nat) (v0 : Value) (v1 : Value) (h : H) : bodyT Tryd.prog E0 SC (XC Tryd.prog rec k) 116 (Value × H) [.opq v0, .opq v1] h (fun v h => some (v, h)) = f116 rec k v0 v1 h := by kernel_rfl

theorem t116 {k : Nat} {v0 : Value} {v1 : Value} {h h1 : H} {v : Value} (hh : f116 rn k v0 v1 h = some (v, h1)) : rn 116 #[v0, v1] h = some (v, trunc Tryd.prog h h1 v) :=
  run_of_bodyT (args := [.opq v0, .opq v1]) rfl ((e116 _ _ _ _ _).trans hh)

theorem p116 {k : Nat} {v0 : Value} {v1 : Value} {h h1 : H} {v : Value} (hh : f116 rn k v0 v1 h = some (v, h1)) (hp : plainO v = true) (x : Ext h h1) : rn 116 #[v0, v1] h = some (v, h) := by rw [t116 hh, trunc_pure hp x]

end Go.AM

end

section

/- The staged forms of functions 17, and what calls of these answer. -/
namespace Go.AM
open Go.Proofs
noncomputable def f17_l2 (rec : Rec) (_k : Nat) (v2 : Value) (ws0 : List Value) (ws1 : List Value) (h3 : H) : Option (Ex × List Value × H) :=
  len v2 fun n3 =>
  asI .i64 (gv ws1 1) fun n4 =>
  ifB (lt n4 n3) (
    calls rec h3 43 [v2] fun v4 h4 =>
    asI .i64 v4 fun n5 =>
    calls rec h4 44 [v2, (.int .i64 n5)] fun v5 h5 =>
    asB v5 fun q1 =>
    ifB q1 (
      calls rec h5 43 [v2] fun v6 h6 =>
      asI .i64 v6 fun n6 =>
      asK (gv ws0 1) fun n7 =>
      nn n7 (
        asK (gv ws1 1) fun n8 =>
        nn n8 (
          calls rec h6 44 [v2, (.int .i64 (andNot .i64 (andNot .i64 n6 (shl .i64 1 n7)) (shl .i64 1 n8)))] fun v7 h7 =>
          asB v7 fun q2 =>
          ifB (not q2) (
            bld Tryd.prog 83 [(0, gv ws0 1), (1, gv ws1 1)] fun v8 =>
            bls Tryd.prog h7 33 1 [(0, v8)] fun v9 h8 =>
            app Tryd.prog h8 33 33 (gv ws1 0) v9 fun v10 h9 =>
            asI .i64 (gv ws1 1) fun n9 =>
            out .normal [v10, (.int .i64 (add .i64 n9 1))] h9) (
            asI .i64 (gv ws1 1) fun n10 =>
            out .normal [gv ws1 0, (.int .i64 (add .i64 n10 1))] h7)))) (
      asI .i64 (gv ws1 1) fun n11 =>
      out .normal [gv ws1 0, (.int .i64 (add .i64 n11 1))] h5)) (
    out (.exit 2) [gv ws1 0, gv ws1 1] h3)

noncomputable def f17_l1 (rec : Rec) (k : Nat) (v2 : Value) (n0 : Int) (ws0 : List Value) (h2 : H) : Option (Ex × List Value × H) :=
  asI .i64 (gv ws0 1) fun n1 =>
  ifB (lt n1 n0) (
    asI .i64 (gv ws0 1) fun n2 =>
    lp k (f17_l2 rec k v2 ws0) [gv ws0 0, (.int .i64 (add .i64 n2 1))] h2 fun e0 ws2 h10 =>
    onE e0 2 (
      asI .i64 (gv ws0 1) fun n12 =>
      out .normal [gv ws2 0, (.int .i64 (add .i64 n12 1))] h10) (
      none)) (
    out (.exit 0) [gv ws0 0, gv ws0 1] h2)

noncomputable def f17 (rec : Rec) (k : Nat) (v0 : Value) (h0 : H) : Option (Value × H) :=
  calls rec h0 36 [v0] fun v1 h1 =>
  ext v1 0 fun v2 =>
  ext v1 1 fun v3 =>
  asB v3 fun q0 =>
  ifB (not q0) (
    some ((.tuple #[(.slice none 0 0), (.int .i64 2)]), h1)) (
    len v2 fun n0 =>
    lp k (f17_l1 rec k v2 n0) [(.slice none 0 0), (.int .i64 0)] h1 fun e1 ws3 h11 =>
    onE e1 0 (
      some ((.tuple #[gv ws3 0, (.int .i64 0)]), h11)) (
      none))

theorem e17 (rec : Rec) (k : Nat) (v0 : Value) (h : H) : bodyT Tryd.prog E0 SC (XC Tryd.prog rec k) 17 (Value × H) [.opq v0] h (fun v h => some (v, h)) = f17 rec k v0 h := by kernel_rfl

theorem t17 {k : Nat} {v0 : Value} {h h1 : H} {v : Value} (hh : f17 rn k v0 h = some (v, h1)) : rn 17 #[v0] h = some (v, trunc Tryd.prog h h1 v) :=
  run_of_bodyT (args := [.opq v0]) rfl ((e17 _ _ _ _).trans hh)

theorem x17 {k : Nat} {v0 : Value} {h h1 : H} {v : Value} (hh : f17 rn k v0 h = some (v, h1)) (hp : plainO v = false) : ∃ h2, rn 17 #[v0] h = some (v, h2) ∧ Sm h1 h2 ∧ (Ext h h1 → Exw h h2) := trunc_cell hp (t17 hh)

end Go.AM

end

section

/- The staged forms of functions 8, 38, 36, 35, 43, 54, 72, 44, 31, 74, 68, 71, and what calls of these answer. -/
namespace Go.AM
open Go.Proofs
noncomputable def f8 (rec : Rec) (_k : Nat) (v0 : Value) (h0 : H) : Option (Value × H) :=
  calls rec h0 35 [v0, (.int .i64 10)] fun v1 h1 =>
  asB v1 fun q0 =>
  some ((.bool q0), h1)

theorem e8 (rec : Rec) (k : Nat) (v0 : Value) (h : H) : bodyT Tryd.prog E0 SC (XC Tryd.prog rec k) 8 (Value × H) [.opq v0] h (fun v h => some (v, h)) = f8 rec k v0 h := by kernel_rfl

theorem t8 {k : Nat} {v0 : Value} {h h1 : H} {v : Value} (hh : f8 rn k v0 h = some (v, h1)) : rn 8 #[v0] h = some (v, trunc Tryd.prog h h1 v) :=
  run_of_bodyT (args := [.opq v0]) rfl ((e8 _ _ _ _).trans hh)

theorem p8 {k : Nat} {v0 : Value} {h h1 : H} {v : Value} (hh : f8 rn k v0 h = some (v, h1)) (hp : plainO v = true) (x : Ext h h1) : rn 8 #[v0] h = some (v, h) := by rw [t8 hh, trunc_pure hp x]

noncomputable def f38 (_rec : Rec) (_k : Nat) (v0 : Value) (h0 : H) : Option (Value × H) :=
  eqv Tryd.prog 23 v0 (.slice none 0 0) fun q0 =>
  ifB q0 (
    some ((.slice none 0 0), h0)) (
    bls Tryd.prog h0 23 0 [] fun v1 h1 =>
    app Tryd.prog h1 23 23 v1 v0 fun v2 h2 =>
    some (v2, h2))

theorem e38 (rec : Rec) (k : Nat) (v0 : Value) (h : H) : bodyT Tryd.prog E0 SC (XC Tryd.prog rec k) 38 (Value × H) [.opq v0] h (fun v h => some (v, h)) = f38 rec k v0 h := by kernel_rfl

theorem t38 {k : Nat} {v0 : Value} {h h1 : H} {v : Value} (hh : f38 rn k v0 h = some (v, h1)) : rn 38 #[v0] h = some (v, trunc Tryd.prog h h1 v) :=
  run_of_bodyT (args := [.opq v0]) rfl ((e38 _ _ _ _).trans hh)

theorem x38 {k : Nat} {v0 : Value} {h h1 : H} {v : Value} (hh : f38 rn k v0 h = some (v, h1)) (hp : plainO v = false) : ∃ h2, rn 38 #[v0] h = some (v, h2) ∧ Sm h1 h2 ∧ (Ext h h1 → Exw h h2) := trunc_cell hp (t38 hh)

noncomputable def f36_l2 (_rec : Rec) (_k : Nat) (v0 : Value) (n0 : Int) (ws0 : List Value) (n4 : Int) (ws1 : List Value) (h2 : H) : Option (Ex × List Value × H) :=
  asI .i64 (gv ws1 2) fun n6 =>
  ifB (lt n6 n0) (
    asK (gv ws1 2) fun n7 =>
    nn n7 (
      asK (gv ws1 2) fun n8 =>
      six v0 n8 1 fun b2 b3 =>
      ld Tryd.prog h2 3 b2 b3 fun v2 =>
      asI .i64 v2 fun n9 =>
      asK (gv ws0 2) fun n10 =>
      nn n10 (
        ifB (not (eq (and .i64 (shr .i64 n4 n7) 1) (and .i64 (shr .i64 n9 n10) 1))) (
          out .ret [(.slice none 0 0), (.bool false), gv ws1 2] h2) (
          asI .i64 (gv ws1 2) fun n11 =>
          out .normal [gv ws1 0, gv ws1 1, (.int .i64 (add .i64 n11 1))] h2)))) (
    out (.exit 2) [gv ws1 0, gv ws1 1, gv ws1 2] h2)

noncomputable def f36_l1 (rec : Rec) (k : Nat) (v0 : Value) (n0 : Int) (n1 : Int) (ws0 : List Value) (h1 : H) : Option (Ex × List Value × H) :=
  asI .i64 (gv ws0 2) fun n2 =>
  ifB (lt n2 n1) (
    asK (gv ws0 2) fun n3 =>
    six v0 n3 1 fun b0 b1 =>
    ld Tryd.prog h1 3 b0 b1 fun v1 =>
    asI .i64 v1 fun n4 =>
    ifB (lt n4 0) (
      out .ret [(.slice none 0 0), (.bool false), gv ws0 2] h1) (
      nn n0 (
        ifB (le (shl .i64 1 n0) n4) (
          out .ret [(.slice none 0 0), (.bool false), gv ws0 2] h1) (
          asK (gv ws0 2) fun n5 =>
          nn n5 (
            ifB (eq (and .i64 (shr .i64 n4 n5) 1) 1) (
              out .ret [(.slice none 0 0), (.bool false), gv ws0 2] h1) (
              lp k (f36_l2 rec k v0 n0 ws0 n4) [gv ws0 0, gv ws0 1, (.int .i64 0)] h1 fun e0 ws2 h3 =>
              onE e0 2 (
                asI .i64 (gv ws0 2) fun n12 =>
                out .normal [gv ws2 0, gv ws2 1, (.int .i64 (add .i64 n12 1))] h3) (
                onR e0 (
                  out .ret [gv ws2 0, gv ws2 1, gv ws0 2] h3)))))))) (
    out (.exit 0) [gv ws0 0, gv ws0 1, gv ws0 2] h1)

noncomputable def f36 (rec : Rec) (k : Nat) (v0 : Value) (h0 : H) : Option (Value × H) :=
  len v0 fun n0 =>
  ifB (lt n0 1) (
    some ((.tuple #[(.slice none 0 0), (.bool false)]), h0)) (
    ifB (lt 10 n0) (
      some ((.tuple #[(.slice none 0 0), (.bool false)]), h0)) (
      len v0 fun n1 =>
      lp k (f36_l1 rec k v0 n0 n1) [(.slice none 0 0), (.bool false), (.int .i64 0)] h0 fun e1 ws3 h4 =>
      onE e1 0 (
        some ((.tuple #[v0, (.bool true)]), h4)) (
        onR e1 (
          some ((.tuple #[gv ws3 0, gv ws3 1]), h4)))))

theorem e36 (rec : Rec) (k : Nat) (v0 : Value) (h : H) : bodyT Tryd.prog E0 SC (XC Tryd.prog rec k) 36 (Value × H) [.opq v0] h (fun v h => some (v, h)) = f36 rec k v0 h := by kernel_rfl

theorem t36 {k : Nat} {v0 : Value} {h h1 : H} {v : Value} (hh : f36 rn k v0 h = some (v, h1)) : rn 36 #[v0] h = some (v, trunc Tryd.prog h h1 v) :=
  run_of_bodyT (args := [.opq v0]) rfl ((e36 _ _ _ _).trans hh)

theorem y36 {k : Nat} {v0 : Value} {h : H} {v : Value} (hh : f36 rn k v0 h = some (v, h)) : rn 36 #[v0] h = some (v, h) := by rw [t36 hh, trunc_self]

noncomputable def f35_l2 (_rec : Rec) (_k : Nat) (v0 : Value) (ws0 : List Value) (n4 : Int) (n8 : Int) (ws1 : List Value) (h2 : H) : Option (Ex × List Value × H) :=
  asI .i64 (gv ws1 1) fun n9 =>
  ifB (lt n9 n8) (
    asK (gv ws1 1) fun n10 =>
    nn n10 (
      asK (gv ws1 1) fun n11 =>
      six v0 n11 1 fun b2 b3 =>
      ld Tryd.prog h2 3 b2 b3 fun v2 =>
      asI .i64 v2 fun n12 =>
      asK (gv ws0 1) fun n13 =>
      nn n13 (
        ifB (not (eq (and .i64 (shr .i64 n4 n10) 1) (and .i64 (shr .i64 n12 n13) 1))) (
          out .ret [(.bool false), gv ws1 1] h2) (
          asI .i64 (gv ws1 1) fun n14 =>
          out .normal [gv ws1 0, (.int .i64 (add .i64 n14 1))] h2)))) (
    out (.exit 2) [gv ws1 0, gv ws1 1] h2)

noncomputable def f35_l1 (rec : Rec) (k : Nat) (v0 : Value) (n0 : Int) (n1 : Int) (ws0 : List Value) (h1 : H) : Option (Ex × List Value × H) :=
  asI .i64 (gv ws0 1) fun n2 =>
  ifB (lt n2 n1) (
    asK (gv ws0 1) fun n3 =>
    six v0 n3 1 fun b0 b1 =>
    ld Tryd.prog h1 3 b0 b1 fun v1 =>
    asI .i64 v1 fun n4 =>
    len v0 fun n5 =>
    ifB (lt n0 n5) (
      out .ret [(.bool false), gv ws0 1] h1) (
      ifB (lt n4 0) (
        out .ret [(.bool false), gv ws0 1] h1) (
        len v0 fun n6 =>
        nn n6 (
          ifB (le (shl .i64 1 n6) n4) (
            out .ret [(.bool false), gv ws0 1] h1) (
            asK (gv ws0 1) fun n7 =>
            nn n7 (
              ifB (eq (and .i64 (shr .i64 n4 n7) 1) 1) (
                out .ret [(.bool false), gv ws0 1] h1) (
                len v0 fun n8 =>
                lp k (f35_l2 rec k v0 ws0 n4 n8) [gv ws0 0, (.int .i64 0)] h1 fun e0 ws2 h3 =>
                onE e0 2 (
                  asI .i64 (gv ws0 1) fun n15 =>
                  out .normal [gv ws2 0, (.int .i64 (add .i64 n15 1))] h3) (
                  onR e0 (
                    out .ret [gv ws2 0, gv ws0 1] h3))))))))) (
    out (.exit 0) [gv ws0 0, gv ws0 1] h1)

noncomputable def f35 (rec : Rec) (k : Nat) (v0 : Value) (n0 : Int) (h0 : H) : Option (Value × H) :=
  len v0 fun n1 =>
  lp k (f35_l1 rec k v0 n0 n1) [(.bool false), (.int .i64 0)] h0 fun e1 ws3 h4 =>
  onE e1 0 (
    len v0 fun n16 =>
    ifB (le 1 n16) (
      len v0 fun n17 =>
      some ((.bool (le n17 n0)), h4)) (
      some ((.bool false), h4))) (
    onR e1 (
      some (gv ws3 0, h4)))

theorem e35 (rec : Rec) (k : Nat) (v0 : Value) (n0 : Int) (h : H) : bodyT Tryd.prog E0 SC (XC Tryd.prog rec k) 35 (Value × H) [.opq v0, .int .i64 n0] h (fun v h => some (v, h)) = f35 rec k v0 n0 h := by kernel_rfl

theorem t35 {k : Nat} {v0 : Value} {n0 : Int} {h h1 : H} {v : Value} (hh : f35 rn k v0 n0 h = some (v, h1)) : rn 35 #[v0, .int .i64 n0] h = some (v, trunc Tryd.prog h h1 v) :=
  run_of_bodyT (args := [.opq v0, .int .i64 n0]) rfl ((e35 _ _ _ _ _).trans hh)

theorem p35 {k : Nat} {v0 : Value} {n0 : Int} {h h1 : H} {v : Value} (hh : f35 rn k v0 n0 h = some (v, h1)) (hp : plainO v = true) (x : Ext h h1) : rn 35 #[v0, .int .i64 n0] h = some (v, h) := by rw [t35 hh, trunc_pure hp x]

noncomputable def f43 (_rec : Rec) (_k : Nat) (v0 : Value) (h0 : H) : Option (Value × H) :=
  len v0 fun n0 =>
  nn n0 (
    some ((.int .i64 (sub .i64 (shl .i64 1 n0) 1)), h0))

theorem e43 (rec : Rec) (k : Nat) (v0 : Value) (h : H) : bodyT Tryd.prog E0 SC (XC Tryd.prog rec k) 43 (Value × H) [.opq v0] h (fun v h => some (v, h)) = f43 rec k v0 h := by kernel_rfl

theorem t43 {k : Nat} {v0 : Value} {h h1 : H} {v : Value} (hh : f43 rn k v0 h = some (v, h1)) : rn 43 #[v0] h = some (v, trunc Tryd.prog h h1 v) :=
  run_of_bodyT (args := [.opq v0]) rfl ((e43 _ _ _ _).trans hh)

theorem p43 {k : Nat} {v0 : Value} {h h1 : H} {v : Value} (hh : f43 rn k v0 h = some (v, h1)) (hp : plainO v = true) (x : Ext h h1) : rn 43 #[v0] h = some (v, h) := by rw [t43 hh, trunc_pure hp x]

noncomputable def f54_l1 (rec : Rec) (_k : Nat)  (ws0 : List Value) (h1 : H) : Option (Ex × List Value × H) :=
  asI .i64 (gv ws0 1) fun n1 =>
  ifB (not (eq n1 0)) (
    asI .i64 (gv ws0 1) fun n2 =>
    calls rec h1 79 [(.int .u64 (wr .u64 n2))] fun v0 h2 =>
    asI .i64 v0 fun n3 =>
    bls Tryd.prog h2 22 1 [(0, (.int .i64 n3))] fun v1 h3 =>
    app Tryd.prog h3 22 22 (gv ws0 0) v1 fun v2 h4 =>
    asI .i64 (gv ws0 1) fun n4 =>
    asI .i64 (gv ws0 1) fun n5 =>
    out .normal [v2, (.int .i64 (and .i64 n5 (sub .i64 n4 1)))] h4) (
    out (.exit 0) [gv ws0 0, gv ws0 1] h1)

noncomputable def f54 (rec : Rec) (k : Nat) (n0 : Int) (h0 : H) : Option (Value × H) :=
  lp k (f54_l1 rec k) [(.slice none 0 0), (.int .i64 n0)] h0 fun e0 ws1 h5 =>
  onE e0 0 (
    some (gv ws1 0, h5)) (
    none)

theorem e54 (rec : Rec) (k : Nat) (n0 : Int) (h : H) : bodyT Tryd.prog E0 SC (XC Tryd.prog rec k) 54 (Value × H) [.int .i64 n0] h (fun v h => some (v, h)) = f54 rec k n0 h := by kernel_rfl

theorem t54 {k : Nat} {n0 : Int} {h h1 : H} {v : Value} (hh : f54 rn k n0 h = some (v, h1)) : rn 54 #[.int .i64 n0] h = some (v, trunc Tryd.prog h h1 v) :=
  run_of_bodyT (args := [.int .i64 n0]) rfl ((e54 _ _ _ _).trans hh)

theorem x54 {k : Nat} {n0 : Int} {h h1 : H} {v : Value} (hh : f54 rn k n0 h = some (v, h1)) (hp : plainO v = false) : ∃ h2, rn 54 #[.int .i64 n0] h = some (v, h2) ∧ Sm h1 h2 ∧ (Ext h h1 → Exw h h2) := trunc_cell hp (t54 hh)

noncomputable def f72_l2 (_rec : Rec) (_k : Nat) (v0 : Value) (n1 : Int) (v1 : Value) (n2 : Int) (ws1 : List Value) (h3 : H) : Option (Ex × List Value × H) :=
  asI .i64 (gv ws1 1) fun n3 =>
  ifB (lt n3 n2) (
    asK (gv ws1 1) fun n4 =>
    six v1 n4 1 fun b0 b1 =>
    ld Tryd.prog h3 3 b0 b1 fun v2 =>
    asI .i64 v2 fun n5 =>
    six v0 n5 1 fun b2 b3 =>
    ld Tryd.prog h3 3 b2 b3 fun v3 =>
    asI .i64 v3 fun n6 =>
    asI .i64 (gv ws1 0) fun n7 =>
    asI .i64 (gv ws1 1) fun n8 =>
    out .normal [(.int .i64 (or .i64 n7 (and .i64 n6 n1))), (.int .i64 (add .i64 n8 1))] h3) (
    out (.exit 2) [gv ws1 0, gv ws1 1] h3)

noncomputable def f72_l1 (rec : Rec) (k : Nat) (v0 : Value) (n1 : Int) (ws0 : List Value) (h1 : H) : Option (Ex × List Value × H) :=
  calls rec h1 54 [gv ws0 1] fun v1 h2 =>
  len v1 fun n2 =>
  lp k (f72_l2 rec k v0 n1 v1 n2) [gv ws0 1, (.int .i64 0)] h2 fun e0 ws2 h4 =>
  onE e0 2 (
    asI .i64 (gv ws2 0) fun n9 =>
    asI .i64 (gv ws0 1) fun n10 =>
    ifB (eq n9 n10) (
      out .ret [gv ws0 1, gv ws0 1] h4) (
      out .normal [gv ws0 0, gv ws2 0] h4)) (
    none)

noncomputable def f72 (rec : Rec) (k : Nat) (v0 : Value) (n0 : Int) (n1 : Int) (h0 : H) : Option (Value × H) :=
  nn n0 (
    lp k (f72_l1 rec k v0 n1) [(.int .i64 0), (.int .i64 (shl .i64 1 n0))] h0 fun e1 ws3 h5 =>
    onR e1 (
      some (gv ws3 0, h5)))

theorem e72 (rec : Rec) (k : Nat) (v0 : Value) (n0 : Int) (n1 : Int) (h : H) : bodyT Tryd.prog E0 SC (XC Tryd.prog rec k) 72 (Value × H) [.opq v0, .int .i64 n0, .int .i64 n1] h (fun v h => some (v, h)) = f72 rec k v0 n0 n1 h := by kernel_rfl

theorem t72 {k : Nat} {v0 : Value} {n0 : Int} {n1 : Int} {h h1 : H} {v : Value} (hh : f72 rn k v0 n0 n1 h = some (v, h1)) : rn 72 #[v0, .int .i64 n0, .int .i64 n1] h = some (v, trunc Tryd.prog h h1 v) :=
  run_of_bodyT (args := [.opq v0, .int .i64 n0, .int .i64 n1]) rfl ((e72 _ _ _ _ _ _).trans hh)

theorem p72 {k : Nat} {v0 : Value} {n0 : Int} {n1 : Int} {h h1 : H} {v : Value} (hh : f72 rn k v0 n0 n1 h = some (v, h1)) (hp : plainO v = true) (x : Ext h h1) : rn 72 #[v0, .int .i64 n0, .int .i64 n1] h = some (v, h) := by rw [t72 hh, trunc_pure hp x]

noncomputable def f44 (rec : Rec) (_k : Nat) (v0 : Value) (n0 : Int) (h0 : H) : Option (Value × H) :=
  ifB (eq n0 0) (
    some ((.bool true), h0)) (
    calls rec h0 79 [(.int .u64 (wr .u64 n0))] fun v1 h1 =>
    asI .i64 v1 fun n1 =>
    calls rec h1 72 [v0, (.int .i64 n1), (.int .i64 n0)] fun v2 h2 =>
    asI .i64 v2 fun n2 =>
    some ((.bool (eq n2 n0)), h2))

theorem e44 (rec : Rec) (k : Nat) (v0 : Value) (n0 : Int) (h : H) : bodyT Tryd.prog E0 SC (XC Tryd.prog rec k) 44 (Value × H) [.opq v0, .int .i64 n0] h (fun v h => some (v, h)) = f44 rec k v0 n0 h := by kernel_rfl

theorem t44 {k : Nat} {v0 : Value} {n0 : Int} {h h1 : H} {v : Value} (hh : f44 rn k v0 n0 h = some (v, h1)) : rn 44 #[v0, .int .i64 n0] h = some (v, trunc Tryd.prog h h1 v) :=
  run_of_bodyT (args := [.opq v0, .int .i64 n0]) rfl ((e44 _ _ _ _ _).trans hh)

theorem p44 {k : Nat} {v0 : Value} {n0 : Int} {h h1 : H} {v : Value} (hh : f44 rn k v0 n0 h = some (v, h1)) (hp : plainO v = true) (x : Ext h h1) : rn 44 #[v0, .int .i64 n0] h = some (v, h) := by rw [t44 hh, trunc_pure hp x]

noncomputable def f31 (_rec : Rec) (_k : Nat) (v0 : Value) (h0 : H) : Option (Value × H) :=
  eqv Tryd.prog 22 v0 (.slice none 0 0) fun q0 =>
  ifB q0 (
    some ((.slice none 0 0), h0)) (
    bls Tryd.prog h0 22 0 [] fun v1 h1 =>
    app Tryd.prog h1 22 22 v1 v0 fun v2 h2 =>
    some (v2, h2))

theorem e31 (rec : Rec) (k : Nat) (v0 : Value) (h : H) : bodyT Tryd.prog E0 SC (XC Tryd.prog rec k) 31 (Value × H) [.opq v0] h (fun v h => some (v, h)) = f31 rec k v0 h := by kernel_rfl

theorem t31 {k : Nat} {v0 : Value} {h h1 : H} {v : Value} (hh : f31 rn k v0 h = some (v, h1)) : rn 31 #[v0] h = some (v, trunc Tryd.prog h h1 v) :=
  run_of_bodyT (args := [.opq v0]) rfl ((e31 _ _ _ _).trans hh)

theorem x31 {k : Nat} {v0 : Value} {h h1 : H} {v : Value} (hh : f31 rn k v0 h = some (v, h1)) (hp : plainO v = false) : ∃ h2, rn 31 #[v0] h = some (v, h2) ∧ Sm h1 h2 ∧ (Ext h h1 → Exw h h2) := trunc_cell hp (t31 hh)

noncomputable def f74 (_rec : Rec) (_k : Nat) (v0 : Value) (h0 : H) : Option (Value × H) :=
  eqv Tryd.prog 72 v0 (.slice none 0 0) fun q0 =>
  ifB q0 (
    some ((.slice none 0 0), h0)) (
    bls Tryd.prog h0 72 0 [] fun v1 h1 =>
    app Tryd.prog h1 72 72 v1 v0 fun v2 h2 =>
    some (v2, h2))

theorem e74 (rec : Rec) (k : Nat) (v0 : Value) (h : H) : bodyT Tryd.prog E0 SC (XC Tryd.prog rec k) 74 (Value × H) [.opq v0] h (fun v h => some (v, h)) = f74 rec k v0 h := by kernel_rfl

theorem t74 {k : Nat} {v0 : Value} {h h1 : H} {v : Value} (hh : f74 rn k v0 h = some (v, h1)) : rn 74 #[v0] h = some (v, trunc Tryd.prog h h1 v) :=
  run_of_bodyT (args := [.opq v0]) rfl ((e74 _ _ _ _).trans hh)

theorem x74 {k : Nat} {v0 : Value} {h h1 : H} {v : Value} (hh : f74 rn k v0 h = some (v, h1)) (hp : plainO v = false) : ∃ h2, rn 74 #[v0] h = some (v, h2) ∧ Sm h1 h2 ∧ (Ext h h1 → Exw h h2) := trunc_cell hp (t74 hh)

noncomputable def f68 (_rec : Rec) (_k : Nat) (v0 : Value) (n0 : Int) (h0 : H) : Option (Value × H) :=
  ifB (le 0 n0) (
    len v0 fun n1 =>
    some ((.bool (lt n0 n1)), h0)) (
    some ((.bool false), h0))

theorem e68 (rec : Rec) (k : Nat) (v0 : Value) (n0 : Int) (h : H) : bodyT Tryd.prog E0 SC (XC Tryd.prog rec k) 68 (Value × H) [.opq v0, .int .i64 n0] h (fun v h => some (v, h)) = f68 rec k v0 n0 h := by kernel_rfl

theorem t68 {k : Nat} {v0 : Value} {n0 : Int} {h h1 : H} {v : Value} (hh : f68 rn k v0 n0 h = some (v, h1)) : rn 68 #[v0, .int .i64 n0] h = some (v, trunc Tryd.prog h h1 v) :=
  run_of_bodyT (args := [.opq v0, .int .i64 n0]) rfl ((e68 _ _ _ _ _).trans hh)

theorem p68 {k : Nat} {v0 : Value} {n0 : Int} {h h1 : H} {v : Value} (hh : f68 rn k v0 n0 h = some (v, h1)) (hp : plainO v = true) (x : Ext h h1) : rn 68 #[v0, .int .i64 n0] h = some (v, h) := by rw [t68 hh, trunc_pure hp x]

noncomputable def f71 (_rec : Rec) (_k : Nat) (v0 : Value) (n0 : Int) (n1 : Int) (h0 : H) : Option (Value × H) :=
  six v0 n0 1 fun b0 b1 =>
  ld Tryd.prog h0 3 b0 b1 fun v1 =>
  asI .i64 v1 fun n2 =>
  nn n1 (
    some ((.bool (eq (and .i64 (shr .i64 n2 n1) 1) 1)), h0))

theorem e71 (rec : Rec) (k : Nat) (v0 : Value) (n0 : Int) (n1 : Int) (h : H) : bodyT Tryd.prog E0 SC (XC Tryd.prog rec k) 71 (Value × H) [.opq v0, .int .i64 n0, .int .i64 n1] h (fun v h => some (v, h)) = f71 rec k v0 n0 n1 h := by kernel_rfl

theorem t71 {k : Nat} {v0 : Value} {n0 : Int} {n1 : Int} {h h1 : H} {v : Value} (hh : f71 rn k v0 n0 n1 h = some (v, h1)) : rn 71 #[v0, .int .i64 n0, .int .i64 n1] h = some (v, trunc Tryd.prog h h1 v) :=
  run_of_bodyT (args := [.opq v0, .int .i64 n0, .int .i64 n1]) rfl ((e71 _ _ _ _ _ _).trans hh)

theorem p71 {k : Nat} {v0 : Value} {n0 : Int} {n1 : Int} {h h1 : H} {v : Value} (hh : f71 rn k v0 n0 n1 h = some (v, h1)) (hp : plainO v = true) (x : Ext h h1) : rn 71 #[v0, .int .i64 n0, .int .i64 n1] h = some (v, h) := by rw [t71 hh, trunc_pure hp x]

end Go.AM

end

section

/- The staged forms of functions 79, 55, 64, 97, and what calls of these answer. -/
namespace Go.AM
open Go.Proofs
noncomputable def f79 (rec : Rec) (_k : Nat) (v0 : Value) (h0 : H) : Option (Value × H) :=
  calls rec h0 104 [v0] fun v1 h1 =>
  asI .i64 v1 fun n0 =>
  some ((.int .i64 n0), h1)

theorem e79 (rec : Rec) (k : Nat) (v0 : Value) (h : H) : bodyT Tryd.prog E0 SC (XC Tryd.prog rec k) 79 (Value × H) [.opq v0] h (fun v h => some (v, h)) = f79 rec k v0 h := by kernel_rfl

theorem t79 {k : Nat} {v0 : Value} {h h1 : H} {v : Value} (hh : f79 rn k v0 h = some (v, h1)) : rn 79 #[v0] h = some (v, trunc Tryd.prog h h1 v) :=
  run_of_bodyT (args := [.opq v0]) rfl ((e79 _ _ _ _).trans hh)

theorem p79 {k : Nat} {v0 : Value} {h h1 : H} {v : Value} (hh : f79 rn k v0 h = some (v, h1)) (hp : plainO v = true) (x : Ext h h1) : rn 79 #[v0] h = some (v, h) := by rw [t79 hh, trunc_pure hp x]

noncomputable def f55 (rec : Rec) (_k : Nat) (n0 : Int) (h0 : H) : Option (Value × H) :=
  calls rec h0 64 [(.int .u64 (wr .u64 n0))] fun v0 h1 =>
  asI .i64 v0 fun n1 =>
  some ((.int .i64 n1), h1)

theorem e55 (rec : Rec) (k : Nat) (n0 : Int) (h : H) : bodyT Tryd.prog E0 SC (XC Tryd.prog rec k) 55 (Value × H) [.int .i64 n0] h (fun v h => some (v, h)) = f55 rec k n0 h := by kernel_rfl

theorem t55 {k : Nat} {n0 : Int} {h h1 : H} {v : Value} (hh : f55 rn k n0 h = some (v, h1)) : rn 55 #[.int .i64 n0] h = some (v, trunc Tryd.prog h h1 v) :=
  run_of_bodyT (args := [.int .i64 n0]) rfl ((e55 _ _ _ _).trans hh)

theorem p55 {k : Nat} {n0 : Int} {h h1 : H} {v : Value} (hh : f55 rn k n0 h = some (v, h1)) (hp : plainO v = true) (x : Ext h h1) : rn 55 #[.int .i64 n0] h = some (v, h) := by rw [t55 hh, trunc_pure hp x]

noncomputable def f64 (rec : Rec) (_k : Nat) (v0 : Value) (h0 : H) : Option (Value × H) :=
  calls rec h0 97 [v0] fun v1 h1 =>
  asI .i64 v1 fun n0 =>
  some ((.int .i64 n0), h1)

theorem e64 (rec : Rec) (k : Nat) (v0 : Value) (h : H) : bodyT Tryd.prog E0 SC (XC Tryd.prog rec k) 64 (Value × H) [.opq v0] h (fun v h => some (v, h)) = f64 rec k v0 h := by kernel_rfl

theorem t64 {k : Nat} {v0 : Value} {h h1 : H} {v : Value} (hh : f64 rn k v0 h = some (v, h1)) : rn 64 #[v0] h = some (v, trunc Tryd.prog h h1 v) :=
  run_of_bodyT (args := [.opq v0]) rfl ((e64 _ _ _ _).trans hh)

theorem p64 {k : Nat} {v0 : Value} {h h1 : H} {v : Value} (hh : f64 rn k v0 h = some (v, h1)) (hp : plainO v = true) (x : Ext h h1) : rn 64 #[v0] h = some (v, h) := by rw [t64 hh, trunc_pure hp x]

noncomputable def f97 (_rec : Rec) (_k : Nat) (v0 : Value) (h0 : H) : Option (Value × H) :=
  asI .u64 v0 fun n0 =>
  nn 1 (
    asI .u64 v0 fun n1 =>
    nn 2 (
      nn 4 (
        nn 8 (
          nn 16 (
            nn 32 (
              some ((.int .i64 (and .i64 (wr .i64 (add .u64 (add .u64 (add .u64 (and .u64 (add .u64 (shr .u64 (add .u64 (and .u64 (shr .u64 (add .u64 (and .u64 (shr .u64 n0 1) 6148914691236517205) (and .u64 n1 6148914691236517205)) 2) 3689348814741910323) (and .u64 (add .u64 (and .u64 (shr .u64 n0 1) 6148914691236517205) (and .u64 n1 6148914691236517205)) 3689348814741910323)) 4) (add .u64 (and .u64 (shr .u64 (add .u64 (and .u64 (shr .u64 n0 1) 6148914691236517205) (and .u64 n1 6148914691236517205)) 2) 3689348814741910323) (and .u64 (add .u64 (and .u64 (shr .u64 n0 1) 6148914691236517205) (and .u64 n1 6148914691236517205)) 3689348814741910323))) 1085102592571150095) (shr .u64 (and .u64 (add .u64 (shr .u64 (add .u64 (and .u64 (shr .u64 (add .u64 (and .u64 (shr .u64 n0 1) 6148914691236517205) (and .u64 n1 6148914691236517205)) 2) 3689348814741910323) (and .u64 (add .u64 (and .u64 (shr .u64 n0 1) 6148914691236517205) (and .u64 n1 6148914691236517205)) 3689348814741910323)) 4) (add .u64 (and .u64 (shr .u64 (add .u64 (and .u64 (shr .u64 n0 1) 6148914691236517205) (and .u64 n1 6148914691236517205)) 2) 3689348814741910323) (and .u64 (add .u64 (and .u64 (shr .u64 n0 1) 6148914691236517205) (and .u64 n1 6148914691236517205)) 3689348814741910323))) 1085102592571150095) 8)) (shr .u64 (add .u64 (and .u64 (add .u64 (shr .u64 (add .u64 (and .u64 (shr .u64 (add .u64 (and .u64 (shr .u64 n0 1) 6148914691236517205) (and .u64 n1 6148914691236517205)) 2) 3689348814741910323) (and .u64 (add .u64 (and .u64 (shr .u64 n0 1) 6148914691236517205) (and .u64 n1 6148914691236517205)) 3689348814741910323)) 4) (add .u64 (and .u64 (shr .u64 (add .u64 (and .u64 (shr .u64 n0 1) 6148914691236517205) (and .u64 n1 6148914691236517205)) 2) 3689348814741910323) (and .u64 (add .u64 (and .u64 (shr .u64 n0 1) 6148914691236517205) (and .u64 n1 6148914691236517205)) 3689348814741910323))) 1085102592571150095) (shr .u64 (and .u64 (add .u64 (shr .u64 (add .u64 (and .u64 (shr .u64 (add .u64 (and .u64 (shr .u64 n0 1) 6148914691236517205) (and .u64 n1 6148914691236517205)) 2) 3689348814741910323) (and .u64 (add .u64 (and .u64 (shr .u64 n0 1) 6148914691236517205) (and .u64 n1 6148914691236517205)) 3689348814741910323)) 4) (add .u64 (and .u64 (shr .u64 (add .u64 (and .u64 (shr .u64 n0 1) 6148914691236517205) (and .u64 n1 6148914691236517205)) 2) 3689348814741910323) (and .u64 (add .u64 (and .u64 (shr .u64 n0 1) 6148914691236517205) (and .u64 n1 6148914691236517205)) 3689348814741910323))) 1085102592571150095) 8)) 16)) (shr .u64 (add .u64 (add .u64 (and .u64 (add .u64 (shr .u64 (add .u64 (and .u64 (shr .u64 (add .u64 (and .u64 (shr .u64 n0 1) 6148914691236517205) (and .u64 n1 6148914691236517205)) 2) 3689348814741910323) (and .u64 (add .u64 (and .u64 (shr .u64 n0 1) 6148914691236517205) (and .u64 n1 6148914691236517205)) 3689348814741910323)) 4) (add .u64 (and .u64 (shr .u64 (add .u64 (and .u64 (shr .u64 n0 1) 6148914691236517205) (and .u64 n1 6148914691236517205)) 2) 3689348814741910323) (and .u64 (add .u64 (and .u64 (shr .u64 n0 1) 6148914691236517205) (and .u64 n1 6148914691236517205)) 3689348814741910323))) 1085102592571150095) (shr .u64 (and .u64 (add .u64 (shr .u64 (add .u64 (and .u64 (shr .u64 (add .u64 (and .u64 (shr .u64 n0 1) 6148914691236517205) (and .u64 n1 6148914691236517205)) 2) 3689348814741910323) (and .u64 (add .u64 (and .u64 (shr .u64 n0 1) 6148914691236517205) (and .u64 n1 6148914691236517205)) 3689348814741910323)) 4) (add .u64 (and .u64 (shr .u64 (add .u64 (and .u64 (shr .u64 n0 1) 6148914691236517205) (and .u64 n1 6148914691236517205)) 2) 3689348814741910323) (and .u64 (add .u64 (and .u64 (shr .u64 n0 1) 6148914691236517205) (and .u64 n1 6148914691236517205)) 3689348814741910323))) 1085102592571150095) 8)) (shr .u64 (add .u64 (and .u64 (add .u64 (shr .u64 (add .u64 (and .u64 (shr .u64 (add .u64 (and .u64 (shr .u64 n0 1) 6148914691236517205) (and .u64 n1 6148914691236517205)) 2) 3689348814741910323) (and .u64 (add .u64 (and .u64 (shr .u64 n0 1) 6148914691236517205) (and .u64 n1 6148914691236517205)) 3689348814741910323)) 4) (add .u64 (and .u64 (shr .u64 (add .u64 (and .u64 (shr .u64 n0 1) 6148914691236517205) (and .u64 n1 6148914691236517205)) 2) 3689348814741910323) (and .u64 (add .u64 (and .u64 (shr .u64 n0 1) 6148914691236517205) (and .u64 n1 6148914691236517205)) 3689348814741910323))) 1085102592571150095) (shr .u64 (and .u64 (add .u64 (shr .u64 (add .u64 (and .u64 (shr .u64 (add .u64 (and .u64 (shr .u64 n0 1) 6148914691236517205) (and .u64 n1 6148914691236517205)) 2) 3689348814741910323) (and .u64 (add .u64 (and .u64 (shr .u64 n0 1) 6148914691236517205) (and .u64 n1 6148914691236517205)) 3689348814741910323)) 4) (add .u64 (and .u64 (shr .u64 (add .u64 (and .u64 (shr .u64 n0 1) 6148914691236517205) (and .u64 n1 6148914691236517205)) 2) 3689348814741910323) (and .u64 (add .u64 (and .u64 (shr .u64 n0 1) 6148914691236517205) (and .u64 n1 6148914691236517205)) 3689348814741910323))) 1085102592571150095) 8)) 16)) 32))) 127)), h0)))))))

theorem e97 (rec : Rec) (k : Nat) (v0 : Value) (h : H) : bodyT Tryd.prog E0 SC (XC Tryd.prog rec k) 97 (Value × H) [.opq v0] h (fun v h => some (v, h)) = f97 rec k v0 h := by kernel_rfl

theorem t97 {k : Nat} {v0 : Value} {h h1 : H} {v : Value} (hh : f97 rn k v0 h = some (v, h1)) : rn 97 #[v0] h = some (v, trunc Tryd.prog h h1 v) :=
  run_of_bodyT (args := [.opq v0]) rfl ((e97 _ _ _ _).trans hh)

theorem p97 {k : Nat} {v0 : Value} {h h1 : H} {v : Value} (hh : f97 rn k v0 h = some (v, h1)) (hp : plainO v = true) (x : Ext h h1) : rn 97 #[v0] h = some (v, h) := by rw [t97 hh, trunc_pure hp x]

end Go.AM

end

section

/- The lowest bit of a set; how many bits it has. -/
namespace Go.AM
open Go.Proofs
/-- The lowest number of a set below 1024. -/
def low (x : Nat) : Nat := ((List.range 10).find? fun i => x.testBit i).getD 0

/-- How many of the first ten numbers are in a set. -/
def pop (n : Nat) : Nat := (List.range 10).countP fun i => n.testBit i

theorem iso_any {P : Program} {E : Env} {n : Nat} {f : FuncId} {args : Array Value} {h h0 h1 : H} {v : Value} (hi : (E.iso f && args.toList.all plainV) = true) (hc : call P E (n + 1) f args h0 = some (v, h1)) : call P E (n + 1) f args h = some (v, h) := by
  unfold call at hc ⊢
  rw [if_pos hi] at hc ⊢
  cases hb : body P E (call P E n) (n + 1) f args (lone E) with
  | none => rw [hb] at hc; cases hc
  | some r =>
    obtain ⟨v', h'⟩ := r
    rw [hb] at hc
    simp only [Option.bind_some] at hc ⊢
    split at hc
    · rename_i hp
      rw [if_pos hp]
      cases hc
      rfl
    · cases hc

noncomputable def tzOk (x : Nat) : Bool := match call Tryd.prog E0 20 104 #[.int .u64 (x : Int)] ⟨fun _ => none, 0, 0⟩ with
  | some (.int .i64 z, _) => z == (low x : Int)
  | _ => false

theorem tz_all : ((List.range 1024).all fun x => decide (x = 0) || tzOk x) = true := by decide +kernel

noncomputable def cntF (n : Int) : Int := match f97 (fun _ _ _ => none) 0 (.int .u64 n) ⟨fun _ => none, 0, 0⟩ with
  | some (.int _ z, _) => z
  | _ => 0

theorem f97_eq (n : Int) (h : H) : f97 rn 0 (.int .u64 n) h = some (iv (cntF n), h) := by kernel_rfl

theorem cnt_all : ((List.range 1024).all fun n => decide (cntF (n : Int) = (pop n : Int))) = true := by decide +kernel

theorem s104 {x : Nat} (h0 : 0 < x) (h1 : x < 1024) (h : H) : rn 104 #[.int .u64 x] h = some (iv (low x), h) := by
  have := List.all_eq_true.1 tz_all x (List.mem_range.2 h1)
  rw [Bool.or_eq_true, decide_eq_true_iff] at this
  have ht : tzOk x = true := by
    rcases this with h2 | h2
    · omega
    · exact h2
  unfold tzOk at ht
  split at ht
  · rename_i z h' hc
    have hz : z = (low x : Int) := by simpa using ht
    subst hz
    exact run_iso (n := 19) (by rfl) (iso_any (by rfl) hc)
  · cases ht

theorem s79 {x : Nat} (h0 : 0 < x) (h1 : x < 1024) (h : H) : rn 79 #[.int .u64 x] h = some (iv (low x), h) := by
  refine p79 (k := 0) ?_ rfl (.refl _)
  unfold f79
  rw [calls_eq (xs := [.int .u64 x]) (s104 h0 h1 h), asI_int]

theorem s64 {x : Nat} (h1 : x < 1024) (h : H) : rn 64 #[.int .u64 x] h = some (iv (pop x), h) := by
  have hp : cntF x = (pop x : Int) := of_decide_eq_true (List.all_eq_true.1 cnt_all x (List.mem_range.2 h1))
  have e97 : rn 97 #[.int .u64 x] h = some (iv (pop x), h) := by
    rw [← hp]
    exact p97 (k := 0) (f97_eq x h) rfl (.refl _)
  refine p64 (k := 0) ?_ rfl (.refl _)
  unfold f64
  rw [calls_eq (xs := [.int .u64 x]) e97, asI_int]

end Go.AM

end

section

/- Graphs that are valid; copies of slices; it is awake. -/
namespace Go.AM
open Go.Proofs
variable {R : Type}
attribute [local simp] nx_eq nx_new nx_set blk_new blk_set asI_int asK_int asB_bool asP_ptr al_eq bx_eq len_slice onE_exit onE_ret onR_ret Value.cells d3 d22 d23 cell_new cell_set rd_new rd_set off eq lt le ifB gv out
abbrev cellsI (l : List Int) : List (List Value) := l.map fun z => [iv z]

theorem app22 : okApp Tryd.prog 22 3 1 = true := by kernel_rfl

theorem app23 : okApp Tryd.prog 23 3 1 = true := by kernel_rfl

theorem app72 : okApp Tryd.prog 72 3 1 = true := by kernel_rfl

theorem under22 : Tryd.prog.underlying 22 = some (.slice 3) := by kernel_rfl

theorem under23 : Tryd.prog.underlying 23 = some (.slice 3) := by kernel_rfl

theorem bls22e (h : H) : buildSlice Tryd.prog 22 0 [] h = some (.slice (some ⟨h.nx, 0, none⟩) 0 0, h.new (.row [] 3 true)) := by kernel_rfl

theorem bls23e (h : H) : buildSlice Tryd.prog 23 0 [] h = some (.slice (some ⟨h.nx, 0, none⟩) 0 0, h.new (.row [] 3 true)) := by kernel_rfl

theorem bls72e (h : H) : buildSlice Tryd.prog 72 0 [] h = some (.slice (some ⟨h.nx, 0, none⟩) 0 0, h.new (.row [] 3 true)) := by kernel_rfl

theorem bls22 (z : Int) (h : H) : buildSlice Tryd.prog 22 1 [(0, .int .i64 z)] h = some (.slice (some ⟨h.nx, 0, none⟩) 1 1, h.new (.row [iv z] 3 true)) := by kernel_rfl

theorem nil22 : binOp Tryd.prog .eql 22 (.slice none 0 0) (.slice none 0 0) = some (.bool true) := by kernel_rfl

theorem some22 (b o n c : Nat) : binOp Tryd.prog .eql 22 (.slice (some ⟨b, o, none⟩) n c) (.slice none 0 0) = some (.bool false) := by kernel_rfl

theorem nil23 : binOp Tryd.prog .eql 23 (.slice none 0 0) (.slice none 0 0) = some (.bool true) := by kernel_rfl

theorem some23 (b o n c : Nat) : binOp Tryd.prog .eql 23 (.slice (some ⟨b, o, none⟩) n c) (.slice none 0 0) = some (.bool false) := by kernel_rfl

theorem some78 (b o n c : Nat) : binOp Tryd.prog .eql 72 (.slice (some ⟨b, o, none⟩) n c) (.slice none 0 0) = some (.bool false) := by kernel_rfl

/-- A copy: of a graph, of a slice of numbers, of a town. -/
theorem s38 {v : Value} {l : List (List Value)} {h : H} (hs : SlR h 3 1 v l) (hm : l.length < 2 ^ 30) : ∃ v' h', rn 38 #[v] h = some (v', h') ∧ Exw h h' ∧ SlR h' 3 1 v' l ∧ ∃ a n c, v' = .slice a n c := by
  have hs0 := hs
  have key : ∃ v' h', f38 rn 0 v h = some (v', h') ∧ Ext h h' ∧ SlR h' 3 1 v' l := by
    cases hs with
    | nil =>
      refine ⟨.slice none 0 0, h, ?_, .refl _, .nil⟩
      unfold f38 eqv
      rw [nil23]
      rfl
    | @at_ b o c cs own l hb hr hk hc hl hx =>
      unfold f38 eqv
      rw [some23]
      simp only []
      rw [show ifB false = fun (x y : Option (Value × H)) => y from rfl]
      simp only []
      rw [bls_some (bls23e h)]
      have x1 := Ext.new h (.row [] 3 true)
      obtain ⟨v', h', e, x, s⟩ := app_all (b := h.nx) app23 app23 (Nat.lt_succ_self _) (blk_new_self _ _) (hs0.ext x1) hm
      exact ⟨v', h', e _, x1.trans x, s⟩
  obtain ⟨v', h', e, x, s⟩ := key
  have hv : ∃ a n c, v' = .slice a n c := by cases s <;> exact ⟨_, _, _, rfl⟩
  obtain ⟨a, n, c, rfl⟩ := hv
  obtain ⟨h2, e2, m2, w2⟩ := x38 e rfl
  exact ⟨_, h2, e2, w2 x, s.ext m2.ext, a, n, c, rfl⟩

/-- Is a number in a set? -/
def bitI (x j : Int) : Int := AM.and .i64 (shr .i64 x j) 1

def rowOk (l : List Int) (i : Nat) (x : Int) : Bool :=
  !decide (x < 0) && !decide (AM.shl .i64 1 (l.length : Int) ≤ x) && !decide (bitI x i = 1) && (List.range l.length).all fun j => decide (bitI x j = bitI (l.getD j 0) i)

/-- Is a graph valid? -/
def validG (l : List Int) : Bool := decide (1 ≤ l.length) && decide (l.length ≤ 10) && (List.range l.length).all fun i => rowOk l i (l.getD i 0)

theorem validG_iff {l : List Int} (h : 1 ≤ l.length ∧ l.length ≤ 10) : validG l = true ↔ ∀ i x, l[i]? = some x → rowOk l i x = true := by
  unfold validG
  rw [decide_eq_true h.1, decide_eq_true h.2]
  simp only [Bool.true_and, List.all_eq_true, List.mem_range]
  constructor
  · intro hh i x hx
    have := hh i (List.getElem?_eq_some_iff.1 hx).1
    simpa [List.getD, hx] using this
  · intro hh i hi
    have := hh i _ (List.getElem?_eq_getElem hi)
    simpa [List.getD, List.getElem?_eq_getElem hi] using this

theorem getL {h : H} {v : Value} {l : List Int} (hs : SlR h 3 1 v (cellsI l)) {i : Nat} {x : Int} (hx : l[i]? = some x) (K : Value → Option R) : (six v (i : Int) 1 fun b o => (h.cell b o).bind K) = K (iv x) :=
  hs.c0 (by omega) (x := [iv x]) (by simp [hx]) rfl K

set_option maxHeartbeats 1000000 in
theorem s36 {v : Value} {l : List Int} {h : H} (hs : SlR h 3 1 v (cellsI l)) : rn 36 #[v] h = some (if validG l = true then .tuple #[v, .bool true] else .tuple #[.slice none 0 0, .bool false], h) := by
  have hn : ∀ {T : Type} (K : Int → Option T), len v K = K (l.length : Int) := fun K => by rw [hs.len]; simp
  by_cases hl : 1 ≤ l.length ∧ l.length ≤ 10
  · have hni : ∀ i : Nat, nn (i : Int) = fun (z : Option (Ex × List Value × H)) => z := fun i => by funext z; exact nn_ge (by omega) z
    have hb : ∀ a b : Int, AM.and .i64 (shr .i64 a b) 1 = bitI a b := fun _ _ => rfl
    have inner := fun (i : Nat) (x : Int) (_ : l[i]? = some x) => lp_all (F := f36_l2 rn 200010 v l.length [.slice none 0 0, .bool false, iv i] x) (k := 200010) (l := l) (h := h) (fun j => [.slice none 0 0, .bool false, iv j])
      (fun j y => decide (bitI x j = bitI y i)) (fun j => [.slice none 0 0, .bool false, iv j]) 2 [.slice none 0 0, .bool false, iv l.length] (ws := [.slice none 0 0, .bool false, iv 0]) rfl (by omega)
      (by simp [f36_l2])
      (by
        intro j y hy
        have hj := (List.getElem?_eq_some_iff.1 hy).1
        have hadd : add .i64 (j : Int) 1 = (j : Int) + 1 := add64 (by omega) (by omega)
        have e1 := fun (K : Value → Option (Ex × List Value × H)) => getL hs hy K
        by_cases hq : bitI x j = bitI y i
        · simp [f36_l2, hj, hni, e1, hb, hq, hadd]
        · simp [f36_l2, hj, hni, e1, hb, hq])
    have hlp := lp_all (F := f36_l1 rn 200010 v l.length l.length) (k := 200010) (l := l) (h := h) (fun i => [.slice none 0 0, .bool false, iv i])
      (fun i x => rowOk l i x) (fun i => [.slice none 0 0, .bool false, iv i]) 0 [.slice none 0 0, .bool false, iv l.length] (ws := [.slice none 0 0, .bool false, iv 0]) rfl (by omega)
      (by simp [f36_l1])
      (by
        intro i x hx
        have hi := (List.getElem?_eq_some_iff.1 hx).1
        have hadd : add .i64 (i : Int) 1 = (i : Int) + 1 := add64 (by omega) (by omega)
        have e1 := fun (K : Value → Option (Ex × List Value × H)) => getL hs hx K
        have hall : rowOk l i x = (!decide (x < 0) && !decide (AM.shl .i64 1 (l.length : Int) ≤ x) && !decide (bitI x i = 1) && (List.range l.length).all fun j => decide (bitI x j = bitI (l.getD j 0) i)) := rfl
        by_cases h1 : x < 0
        · have : rowOk l i x = false := by rw [hall, decide_eq_true h1]; rfl
          simp [f36_l1, hi, e1, h1, this]
        · by_cases h2 : AM.shl .i64 1 (l.length : Int) ≤ x
          · have : rowOk l i x = false := by rw [hall, decide_eq_true h2]; simp
            simp [f36_l1, hi, e1, h1, hni, h2, this]
          · by_cases h3 : bitI x i = 1
            · have : rowOk l i x = false := by rw [hall, decide_eq_true h3]; simp
              simp [f36_l1, hi, e1, h1, hni, h2, hb, h3, this]
            · rcases inner i x hx with ⟨j, y, hy, q2, _, q1⟩ | ⟨q2, q1⟩
              · have : rowOk l i x = false := by
                  have : ((List.range l.length).all fun j => decide (bitI x j = bitI (l.getD j 0) i)) = false := by
                    rw [List.all_eq_false]
                    refine ⟨j, List.mem_range.2 (List.getElem?_eq_some_iff.1 hy).1, ?_⟩
                    rw [show l.getD j 0 = y by simp [List.getD, hy], q2]; simp
                  rw [hall, this]; simp
                have hlq := fun (K : Ex → List Value → H → Option (Ex × List Value × H)) => lp_eq (K := K) q1
                simp [f36_l1, hi, e1, h1, hni, h2, hb, h3, this, hlq]
              · have : rowOk l i x = true := by
                  have : ((List.range l.length).all fun j => decide (bitI x j = bitI (l.getD j 0) i)) = true := by
                    rw [List.all_eq_true]
                    intro j hj
                    have hj := List.mem_range.1 hj
                    have := q2 j _ (List.getElem?_eq_getElem hj)
                    simpa [List.getD, List.getElem?_eq_getElem hj] using this
                  rw [hall, this, decide_eq_false h1, decide_eq_false h2, decide_eq_false h3]; rfl
                have hlq := fun (K : Ex → List Value → H → Option (Ex × List Value × H)) => lp_eq (K := K) q1
                simp [f36_l1, hi, e1, h1, hni, h2, hb, h3, this, hlq, hadd])
    have hle1 : ¬ (l.length : Int) < 1 := by omega
    have hle2 : ¬ (10 : Int) < (l.length : Int) := by omega
    rcases hlp with ⟨j, y, hy, q2, _, q1⟩ | ⟨q2, q1⟩
    · have hv : validG l = false := by
        rw [Bool.eq_false_iff]
        intro hc
        have := (validG_iff hl).1 hc j y hy
        rw [this] at q2
        cases q2
      rw [hv]
      exact y36 (k := 200010) (by simp [f36, hn, hle1, hle2, lp_eq q1])
    · have hv : validG l = true := (validG_iff hl).2 q2
      rw [hv, if_pos rfl]
      exact y36 (k := 200010) (by simp [f36, hn, hle1, hle2, lp_eq q1])
  · have hv : validG l = false := by
      unfold validG
      rw [Bool.eq_false_iff]
      intro hc
      simp only [Bool.and_eq_true, decide_eq_true_iff] at hc
      exact hl hc.1
    rw [hv]
    refine y36 (k := 0) ?_
    simp [f36, hn]
    omega

set_option maxHeartbeats 1000000 in
/-- The document's test. -/
theorem s35 {v : Value} {l : List Int} {h : H} (hs : SlR h 3 1 v (cellsI l)) : rn 35 #[v, iv 10] h = some (.bool (validG l), h) := by
  have hlen := hs.lt62
  rw [List.length_map] at hlen
  have hn : ∀ {T : Type} (K : Int → Option T), len v K = K (l.length : Int) := fun K => by rw [hs.len]; simp
  by_cases hl : 1 ≤ l.length ∧ l.length ≤ 10
  · have hni : ∀ i : Nat, nn (i : Int) = fun (z : Option (Ex × List Value × H)) => z := fun i => by funext z; exact nn_ge (by omega) z
    have hb : ∀ a b : Int, AM.and .i64 (shr .i64 a b) 1 = bitI a b := fun _ _ => rfl
    have hle2 : ¬ (10 : Int) < (l.length : Int) := by omega
    have inner := fun (i : Nat) (x : Int) (_ : l[i]? = some x) => lp_all (F := f35_l2 rn 200010 v [.bool false, iv i] x l.length) (k := 200010) (l := l) (h := h) (fun j => [.bool false, iv j])
      (fun j y => decide (bitI x j = bitI y i)) (fun j => [.bool false, iv j]) 2 [.bool false, iv l.length] (ws := [.bool false, iv 0]) rfl (by omega)
      (by simp [f35_l2])
      (by
        intro j y hy
        have hj := (List.getElem?_eq_some_iff.1 hy).1
        have hadd : add .i64 (j : Int) 1 = (j : Int) + 1 := add64 (by omega) (by omega)
        have e1 := fun (K : Value → Option (Ex × List Value × H)) => getL hs hy K
        by_cases hq : bitI x j = bitI y i
        · simp [f35_l2, hj, hni, e1, hb, hq, hadd]
        · simp [f35_l2, hj, hni, e1, hb, hq])
    have hlp := lp_all (F := f35_l1 rn 200010 v 10 l.length) (k := 200010) (l := l) (h := h) (fun i => [.bool false, iv i])
      (fun i x => rowOk l i x) (fun i => [.bool false, iv i]) 0 [.bool false, iv l.length] (ws := [.bool false, iv 0]) rfl (by omega)
      (by simp [f35_l1])
      (by
        intro i x hx
        have hi := (List.getElem?_eq_some_iff.1 hx).1
        have hadd : add .i64 (i : Int) 1 = (i : Int) + 1 := add64 (by omega) (by omega)
        have e1 := fun (K : Value → Option (Ex × List Value × H)) => getL hs hx K
        have hall : rowOk l i x = (!decide (x < 0) && !decide (AM.shl .i64 1 (l.length : Int) ≤ x) && !decide (bitI x i = 1) && (List.range l.length).all fun j => decide (bitI x j = bitI (l.getD j 0) i)) := rfl
        by_cases h1 : x < 0
        · have : rowOk l i x = false := by rw [hall, decide_eq_true h1]; rfl
          simp [f35_l1, hi, e1, hn, hle2, h1, this]
        · by_cases h2 : AM.shl .i64 1 (l.length : Int) ≤ x
          · have : rowOk l i x = false := by rw [hall, decide_eq_true h2]; simp
            simp [f35_l1, hi, e1, hn, hle2, h1, hni, h2, this]
          · by_cases h3 : bitI x i = 1
            · have : rowOk l i x = false := by rw [hall, decide_eq_true h3]; simp
              simp [f35_l1, hi, e1, hn, hle2, h1, hni, h2, hb, h3, this]
            · rcases inner i x hx with ⟨j, y, hy, q2, _, q1⟩ | ⟨q2, q1⟩
              · have : rowOk l i x = false := by
                  have : ((List.range l.length).all fun j => decide (bitI x j = bitI (l.getD j 0) i)) = false := by
                    rw [List.all_eq_false]
                    refine ⟨j, List.mem_range.2 (List.getElem?_eq_some_iff.1 hy).1, ?_⟩
                    rw [show l.getD j 0 = y by simp [List.getD, hy], q2]; simp
                  rw [hall, this]; simp
                have hlq := fun (K : Ex → List Value → H → Option (Ex × List Value × H)) => lp_eq (K := K) q1
                simp [f35_l1, hi, e1, hn, hle2, h1, hni, h2, hb, h3, this, hlq]
              · have : rowOk l i x = true := by
                  have : ((List.range l.length).all fun j => decide (bitI x j = bitI (l.getD j 0) i)) = true := by
                    rw [List.all_eq_true]
                    intro j hj
                    have hj := List.mem_range.1 hj
                    have := q2 j _ (List.getElem?_eq_getElem hj)
                    simpa [List.getD, List.getElem?_eq_getElem hj] using this
                  rw [hall, this, decide_eq_false h1, decide_eq_false h2, decide_eq_false h3]; rfl
                have hlq := fun (K : Ex → List Value → H → Option (Ex × List Value × H)) => lp_eq (K := K) q1
                simp [f35_l1, hi, e1, hn, hle2, h1, hni, h2, hb, h3, this, hlq, hadd])
    rcases hlp with ⟨j, y, hy, q2, _, q1⟩ | ⟨q2, q1⟩
    · have hv : validG l = false := by
        rw [Bool.eq_false_iff]
        intro hc
        have := (validG_iff hl).1 hc j y hy
        rw [this] at q2
        cases q2
      rw [hv]
      exact p35 (k := 200010) (by simp [f35, hn, lp_eq q1]) rfl (.refl _)
    · have hv : validG l = true := (validG_iff hl).2 q2
      rw [hv]
      exact p35 (k := 200010) (by simp [f35, hn, lp_eq q1, show (1 : Int) ≤ (l.length : Int) by omega, show (l.length : Int) ≤ 10 by omega]) rfl (.refl _)
  · have hv : validG l = false := by
      unfold validG
      rw [Bool.eq_false_iff]
      intro hc
      simp only [Bool.and_eq_true, decide_eq_true_iff] at hc
      exact hl hc.1
    rw [hv]
    cases l with
    | nil =>
      have q1 : lpGo (f35_l1 rn 1 v 10 0) 1 [.bool false, iv 0] h = some (.exit 0, [.bool false, iv 0], h) := lpGo_exit (by simp [f35_l1])
      exact p35 (k := 1) (by simp [f35, hn, lp_eq q1]) rfl (.refl _)
    | cons x l =>
      have hle2 : (10 : Int) < ((x :: l).length : Int) := by simp at hl ⊢; omega
      have hpos : 0 < (x :: l).length := by simp
      have e1 := fun (K : Value → Option (Ex × List Value × H)) => getL hs (i := 0) (x := x) rfl K
      generalize x :: l = l' at *
      have e1' : ∀ (K : Value → Option (Ex × List Value × H)), (six v 0 1 fun b o => (h.cell b o).bind K) = K (iv x) := e1
      have q1 : lpGo (f35_l1 rn 1 v 10 l'.length) 1 [.bool false, iv 0] h = some (.ret, [.bool false, iv 0], h) := lpGo_ret (by simp [f35_l1, hpos, e1', hn, hle2])
      exact p35 (k := 1) (by simp [f35, hn, lp_eq q1]) rfl (.refl _)

theorem s8 {v : Value} {l : List Int} {h : H} (hs : SlR h 3 1 v (cellsI l)) : rn 8 #[v] h = some (.bool (validG l), h) := by
  refine p8 (k := 0) ?_ rfl (.refl _)
  unfold f8
  rw [calls_eq (xs := [v, iv 10]) (s35 hs), asB_bool]

end Go.AM

end

section

/- Graphs of at most ten nodes, in plain words: sets as numbers, and what a node reaches within a set. -/
namespace Go.AM
/-! ### Sets as numbers -/
/-- The set of the numbers below n with a property. -/
def mkS (p : Nat → Bool) : Nat → Nat
  | 0 => 0
  | n + 1 => mkS p n ||| (if p n = true then 2 ^ n else 0)

theorem mkS_lt (p : Nat → Bool) : ∀ n, mkS p n < 2 ^ n := by
  intro n
  induction n with
  | zero => simp [mkS]
  | succ n ih =>
    simp only [mkS]
    have h1 : mkS p n < 2 ^ (n + 1) := Nat.lt_trans ih (Nat.pow_lt_pow_right (by omega) (by omega))
    refine Nat.or_lt_two_pow h1 ?_
    split
    · exact Nat.pow_lt_pow_right (by omega) (by omega)
    · exact Nat.two_pow_pos _

theorem mkS_bit (p : Nat → Bool) : ∀ n i, (mkS p n).testBit i = (decide (i < n) && p i) := by
  intro n
  induction n with
  | zero => intro i; simp [mkS]
  | succ n ih =>
    intro i
    simp only [mkS]
    rw [Nat.testBit_or, ih]
    by_cases hi : i = n
    · subst hi
      cases hp : p i <;> simp
    · have h1 : (if p n = true then 2 ^ n else 0).testBit i = false := by
        split
        · rw [Nat.testBit_two_pow]; simp; omega
        · simp
      rw [h1, Bool.or_false]
      have : decide (i < n) = decide (i < n + 1) := by rw [decide_eq_decide]; omega
      rw [this]

theorem big_bit {a n i : Nat} (ha : a < 2 ^ n) (hi : n ≤ i) : a.testBit i = false := Nat.testBit_lt_two_pow (Nat.lt_of_lt_of_le ha (Nat.pow_le_pow_right (by omega) hi))

theorem bit_lt {a n i : Nat} (ha : a < 2 ^ n) (h : a.testBit i = true) : i < n := by
  refine Classical.byContradiction fun hc => ?_
  rw [big_bit ha (by omega)] at h
  cases h

theorem set_ext {a b n : Nat} (ha : a < 2 ^ n) (hb : b < 2 ^ n) (h : ∀ i, i < n → a.testBit i = b.testBit i) : a = b := by
  apply Nat.eq_of_testBit_eq
  intro i
  by_cases hi : i < n
  · exact h i hi
  · rw [big_bit ha (by omega), big_bit hb (by omega)]

/-- The numbers of a set, rising. -/
def elts (s : Nat) : List Nat := (List.range 10).filter fun i => s.testBit i

theorem mem_elts {s i : Nat} (hs : s < 1024) : i ∈ elts s ↔ s.testBit i = true := by
  unfold elts
  rw [List.mem_filter, List.mem_range]
  exact ⟨And.right, fun h => ⟨bit_lt (n := 10) hs h, h⟩⟩

theorem elts_all : ((List.range 1024).all fun n => decide (n = 0) || (decide (elts n = low n :: elts (n &&& (n - 1))) && decide (n &&& (n - 1) < n))) = true := by decide +kernel

theorem elts_next {n : Nat} (h0 : 0 < n) (h : n < 1024) : elts n = low n :: elts (n &&& (n - 1)) ∧ n &&& (n - 1) < n := by
  have := List.all_eq_true.1 elts_all n (List.mem_range.2 h)
  simp only [Bool.or_eq_true, Bool.and_eq_true, decide_eq_true_iff] at this
  rcases this with h1 | h1
  · omega
  · exact h1

theorem elts_zero : elts 0 = [] := by decide

theorem low_bit {n : Nat} (h0 : 0 < n) (h : n < 1024) : n.testBit (low n) = true := by
  rw [← mem_elts h, (elts_next h0 h).1]
  exact List.mem_cons_self

theorem elts_len (n : Nat) : (elts n).length = pop n := by
  unfold elts pop
  rw [List.countP_eq_length_filter]

theorem elts_nodup (n : Nat) : (elts n).Nodup := by
  unfold elts
  exact List.Pairwise.filter _ List.nodup_range

/-- Fewer numbers in a smaller set. -/
theorem pop_lt {a b i : Nat} (hb : b < 1024) (h : ∀ j, a.testBit j = true → b.testBit j = true) (hi : b.testBit i = true) (ha : a.testBit i = false) : pop a < pop b := by
  have hi10 : i < 10 := bit_lt (n := 10) hb hi
  have key : ∀ n, i < n → ((List.range n).countP fun j => a.testBit j) < ((List.range n).countP fun j => b.testBit j) := by
    intro n
    induction n with
    | zero => intro h; omega
    | succ n ih =>
      intro hn
      rw [List.range_succ, List.countP_append, List.countP_append]
      have hle : ((List.range n).countP fun j => a.testBit j) ≤ ((List.range n).countP fun j => b.testBit j) := List.countP_mono_left fun j _ hj => h j hj
      by_cases hin : i = n
      · subst hin
        simp [hi, ha]
        omega
      · have := ih (by omega)
        have h2 : ([n].countP fun j => a.testBit j) ≤ ([n].countP fun j => b.testBit j) := List.countP_mono_left fun j _ hj => h j hj
        omega
  exact key 10 hi10

theorem pop_le_of {a b : Nat} (h : ∀ j, a.testBit j = true → b.testBit j = true) : pop a ≤ pop b := List.countP_mono_left fun j _ hj => h j hj

theorem pop_le_n {a n : Nat} (hn : n ≤ 10) (ha : a < 2 ^ n) : pop a ≤ n := by
  unfold pop
  rw [show 10 = n + (10 - n) by omega, List.range_add, List.countP_append]
  have h1 : ((List.range n).countP fun i => a.testBit i) ≤ n := Nat.le_trans List.countP_le_length (by simp)
  have h2 : (((List.range (10 - n)).map (n + ·)).countP fun i => a.testBit i) = 0 := by
    rw [List.countP_eq_zero]
    intro x hx
    obtain ⟨y, _, rfl⟩ := List.mem_map.1 hx
    rw [big_bit ha (by omega)]
    simp
  omega

/-! ### Graphs -/
/-- The neighbours of a node. -/
def nb (g : List Nat) (i : Nat) : Nat := g.getD i 0

def adj (g : List Nat) (a b : Nat) : Bool := (nb g a).testBit b

/-- Arrows between at most ten nodes. -/
structure GrB (g : List Nat) : Prop where
  len : g.length ≤ 10
  lt : ∀ x ∈ g, x < 2 ^ g.length

theorem GrB.nb_lt {g : List Nat} (hg : GrB g) (i : Nat) : nb g i < 2 ^ g.length := by
  unfold nb
  rw [List.getD_eq_getElem?_getD]
  cases h : g[i]? with
  | none => exact Nat.two_pow_pos _
  | some x => exact hg.lt x (List.mem_of_getElem? h)

theorem GrB.adj_lt {g : List Nat} (hg : GrB g) {a b : Nat} (h : adj g a b = true) : a < g.length ∧ b < g.length := by
  refine ⟨Classical.byContradiction fun hc => ?_, bit_lt (hg.nb_lt a) h⟩
  unfold adj nb at h
  rw [List.getD_eq_getElem?_getD, List.getElem?_eq_none (by omega)] at h
  simp at h

theorem GrB.pow {g : List Nat} (hg : GrB g) : 2 ^ g.length ≤ 1024 := Nat.pow_le_pow_right (n := 2) (by omega) hg.len

/-- What a node reaches within a set. -/
inductive Rch (g : List Nat) (W : Nat) (v : Nat) : Nat → Prop
  | base : Rch g W v v
  | step {a b : Nat} : Rch g W v a → adj g a b = true → W.testBit b = true → Rch g W v b

open Classical in
/-- The set of these. -/
noncomputable def rch (g : List Nat) (W v : Nat) : Nat := mkS (fun u => decide (Rch g W v u)) 10

theorem rch_lt (g : List Nat) (W v : Nat) : rch g W v < 1024 := mkS_lt _ 10

theorem Rch.bound {g : List Nat} {W v u : Nat} (hv : v < 10) (hW : W < 1024) (h : Rch g W v u) : u < 10 := by
  cases h with
  | base => exact hv
  | step _ _ hb => exact bit_lt (n := 10) hW hb

open Classical in
theorem rch_bit {g : List Nat} {W v u : Nat} (hv : v < 10) (hW : W < 1024) : (rch g W v).testBit u = true ↔ Rch g W v u := by
  unfold rch
  rw [mkS_bit, Bool.and_eq_true, decide_eq_true_iff, decide_eq_true_iff]
  exact ⟨And.right, fun h => ⟨h.bound hv hW, h⟩⟩

/-- A set that has the node, and of which all has been reached, and that is closed, is the set of all that is reached. -/
theorem rch_eq {g : List Nat} {W v S : Nat} (hv : v < 10) (hW : W < 1024) (hS : S < 1024) (h0 : S.testBit v = true) (h1 : ∀ u, S.testBit u = true → Rch g W v u) (h2 : ∀ a b, S.testBit a = true → adj g a b = true → W.testBit b = true → S.testBit b = true) : S = rch g W v := by
  refine set_ext (n := 10) hS (rch_lt g W v) fun i hi => ?_
  clear hi
  rw [Bool.eq_iff_iff, rch_bit hv hW]
  refine ⟨h1 i, fun h => ?_⟩
  induction h with
  | base => exact h0
  | step _ hab hb ih => exact h2 _ _ ih hab hb

theorem orAll {g : List Nat} {W u : Nat} : ∀ (L : List Nat) (s : Nat), (L.foldl (fun s i => s ||| (nb g i &&& W)) s).testBit u = true ↔ s.testBit u = true ∨ ∃ i ∈ L, adj g i u = true ∧ W.testBit u = true := by
  intro L
  induction L with
  | nil => intro s; simp
  | cons i L ih =>
    intro s
    rw [List.foldl_cons, ih, Nat.testBit_or, Nat.testBit_and, Bool.or_eq_true, Bool.and_eq_true]
    constructor
    · rintro ((h | h) | ⟨j, hj, h⟩)
      · exact .inl h
      · exact .inr ⟨i, List.mem_cons_self, h⟩
      · exact .inr ⟨j, List.mem_cons_of_mem _ hj, h⟩
    · rintro (h | ⟨j, hj, h⟩)
      · exact .inl (.inl h)
      · rcases List.mem_cons.1 hj with rfl | hj
        · exact .inl (.inr h)
        · exact .inr ⟨j, hj, h⟩

/-- One step of the search. -/
def grow (g : List Nat) (W S : Nat) : Nat := (elts S).foldl (fun s i => s ||| (nb g i &&& W)) S

theorem grow_bit {g : List Nat} {W S u : Nat} (hS : S < 1024) : (grow g W S).testBit u = true ↔ S.testBit u = true ∨ ∃ i, S.testBit i = true ∧ adj g i u = true ∧ W.testBit u = true := by
  unfold grow
  rw [orAll]
  simp only [mem_elts hS]

end Go.AM

end

section

/- The nodes of a set; what a node reaches; is a set connected? -/
namespace Go.AM
open Go.Proofs
variable {R : Type}
attribute [local simp] nx_eq nx_new nx_set blk_new blk_set asI_int asK_int asB_bool asP_ptr al_eq bx_eq len_slice onE_exit onE_ret onR_ret Value.cells d3 d22 d23 cell_new cell_set rd_new rd_set off eq lt le ifB gv out
/-- Numbers, as they stand in a row. -/
abbrev cellsN (l : List Nat) : List (List Value) := l.map fun (n : Nat) => [iv (n : Int)]

theorem cellsN_eq (l : List Nat) : cellsI (l.map Int.ofNat) = cellsN l := by rw [cellsI, List.map_map]; rfl

/-- A graph that is valid. -/
structure GrN (g : List Nat) : Prop extends GrB g where
  pos : 1 ≤ g.length
  irr : ∀ a, adj g a a = false
  sym : ∀ a b, adj g a b = adj g b a

theorem bitI_nat {a p : Nat} (ha : a < 2 ^ 63) (hp : p ≤ 64) : bitI a p = if a.testBit p then 1 else 0 := bit_nat ha hp

theorem valid_nat {l : List Int} (hv : validG l = true) : ∃ g : List Nat, l = g.map Int.ofNat ∧ GrN g := by
  have hl : 1 ≤ l.length ∧ l.length ≤ 10 := by
    unfold validG at hv
    simp only [Bool.and_eq_true, decide_eq_true_iff] at hv
    exact hv.1
  have hrow := (validG_iff hl).1 hv
  have hshl : AM.shl .i64 1 (l.length : Int) = ((2 ^ l.length : Nat) : Int) := shl1_nat (by omega)
  have hpow : 2 ^ l.length ≤ 1024 := Nat.pow_le_pow_right (n := 2) (by omega) hl.2
  have hb : ∀ (i : Nat) (x : Int), l[i]? = some x → 0 ≤ x ∧ x < (2 ^ l.length : Nat) ∧ bitI x i ≠ 1 ∧ ∀ (j : Nat) (y : Int), l[j]? = some y → bitI x j = bitI y i := by
    intro i x hx
    have := hrow i x hx
    unfold rowOk at this
    rw [hshl] at this
    simp only [Bool.and_eq_true, Bool.not_eq_true', decide_eq_false_iff_not, List.all_eq_true, List.mem_range, decide_eq_true_iff] at this
    refine ⟨by omega, by omega, this.1.2, fun j y hy => ?_⟩
    have h := this.2 j (List.getElem?_eq_some_iff.1 hy).1
    simpa [List.getD, hy] using h
  have hmap : l = (l.map Int.toNat).map Int.ofNat := by
    rw [List.map_map]
    symm
    conv => rhs; rw [← List.map_id l]
    refine List.map_congr_left fun x hx => ?_
    obtain ⟨i, hi, rfl⟩ := List.getElem_of_mem hx
    have := hb i _ (List.getElem?_eq_getElem hi)
    simp only [Function.comp_apply, id_eq]
    show ((l[i].toNat : Nat) : Int) = l[i]
    omega
  refine ⟨l.map Int.toNat, hmap, ⟨⟨by simpa using hl.2, fun x hx => ?_⟩, by simpa using hl.1, fun a => ?_, fun a b => ?_⟩⟩
  · obtain ⟨y, hy, rfl⟩ := List.mem_map.1 hx
    obtain ⟨i, hi, rfl⟩ := List.getElem_of_mem hy
    have := hb i _ (List.getElem?_eq_getElem hi)
    rw [List.length_map]
    omega
  all_goals
    have hnb : ∀ i, (∃ x : Nat, l[i]? = some (x : Int) ∧ nb (l.map Int.toNat) i = x ∧ x < 1024) ∨ (l[i]? = none ∧ nb (l.map Int.toNat) i = 0) := by
      intro i
      unfold nb
      rw [List.getD_eq_getElem?_getD, List.getElem?_map]
      cases hx : l[i]? with
      | none => exact .inr ⟨rfl, rfl⟩
      | some x =>
        have := hb i x hx
        exact .inl ⟨x.toNat, by simp; omega, rfl, by omega⟩
  · unfold adj
    rcases hnb a with ⟨x, h1, h2, h3⟩ | ⟨_, h2⟩
    · rw [h2]
      have := (hb a x h1).2.2.1
      rw [bitI_nat (by omega) (by have := (List.getElem?_eq_some_iff.1 h1).1; omega)] at this
      cases hq : x.testBit a with
      | false => rfl
      | true => rw [hq] at this; simp at this
    · rw [h2]; simp
  · unfold adj
    rcases hnb a with ⟨x, h1, h2, h3⟩ | ⟨h1, h2⟩
    · rcases hnb b with ⟨y, h4, h5, h6⟩ | ⟨h4, h5⟩
      · rw [h2, h5]
        have := (hb a x h1).2.2.2 b y h4
        rw [bitI_nat (by omega) (by have := (List.getElem?_eq_some_iff.1 h4).1; omega), bitI_nat (by omega) (by have := (List.getElem?_eq_some_iff.1 h1).1; omega)] at this
        cases hq : x.testBit b <;> cases hr : y.testBit a <;> simp [hq, hr] at this ⊢
      · rw [h5]
        have hbl : l.length ≤ b := by
          refine Classical.byContradiction fun hc => ?_
          rw [List.getElem?_eq_getElem (by omega)] at h4
          cases h4
        have hxl : x < 2 ^ l.length := by have := (hb a x h1).2.1; omega
        rw [h2, big_bit hxl hbl]; simp
    · rw [h2]
      have hal : l.length ≤ a := by
        refine Classical.byContradiction fun hc => ?_
        rw [List.getElem?_eq_getElem (by omega)] at h1
        cases h1
      rcases hnb b with ⟨y, h4, h5, h6⟩ | ⟨h4, h5⟩
      · have hyl : y < 2 ^ l.length := by have := (hb b y h4).2.1; omega
        rw [h5, big_bit hyl hal]; simp
      · rw [h5]; simp

theorem wr64u {n : Nat} (h : n < 1024) : wr .u64 (n : Int) = n := by
  unfold wr IntKind.wrap
  show (n : Int) % 2 ^ 64 = n
  omega

theorem getN {h : H} {v : Value} {g : List Nat} (hs : SlR h 3 1 v (cellsN g)) {i : Nat} (hi : i < g.length) (K : Value → Option R) : (six v (i : Int) 1 fun b o => (h.cell b o).bind K) = K (iv (nb g i : Nat)) := by
  have : g[i]? = some (nb g i) := by unfold nb; rw [List.getD_eq_getElem?_getD, List.getElem?_eq_getElem hi]; rfl
  exact hs.c0 (by omega) (x := [iv (nb g i : Nat)]) (by simp [this]) rfl K

/-- The nodes of a set. -/
theorem s54 {S : Nat} (hS : S < 1024) (h : H) : ∃ v' h', rn 54 #[iv S] h = some (v', h') ∧ Exw h h' ∧ SlR h' 3 1 v' (cellsN (elts S)) := by
  obtain ⟨e, ws', h', hl, rfl, xg, v, w, hap, rfl⟩ := lpGo_inv (F := f54_l1 rn 2000)
    (fun d ws g => Ext h g ∧ ∃ (v : Value) (x : Nat) (L : List Nat), ws = [v, iv x] ∧ d = x ∧ x < 1024 ∧ L ++ elts x = elts S ∧ AqR h.nx g 3 1 v (cellsN L))
    (fun e ws g => e = .exit 0 ∧ Ext h g ∧ ∃ v w, AqR h.nx g 3 1 v (cellsN (elts S)) ∧ ws = [v, w])
    (by
      rintro d ws g ⟨xg, v, x, L, rfl, rfl, hx, hL, hap⟩
      by_cases hx0 : d = 0
      · subst hx0
        rw [elts_zero, List.append_nil] at hL
        subst hL
        exact ⟨.exit 0, [v, iv 0], _, by simp [f54_l1], .inr ⟨by simp, rfl, xg, v, iv 0, hap, rfl⟩⟩
      · have h0 : 0 < d := Nat.pos_of_ne_zero hx0
        obtain ⟨h1, h2⟩ := elts_next h0 hx
        have c89 := fun (K : Value → H → Option (Ex × List Value × H)) => calls_eq (K := K) (xs := [.int .u64 d]) (s79 h0 hx g)
        have hsub : sub .i64 (d : Int) 1 = ((d - 1 : Nat) : Int) := by rw [sub64 (by omega) (by omega)]; omega
        have hand : AM.and .i64 (d : Int) ((d - 1 : Nat) : Int) = ((d &&& (d - 1) : Nat) : Int) := and_nat (by omega) (by omega)
        have hLl : L.length ≤ 10 := by
          have h3 := congrArg List.length hL
          rw [List.length_append, elts_len S] at h3
          have := pop_le_n (Nat.le_refl 10) hS
          omega
        obtain ⟨v', g2, e2, a2, n2, k2, b2, hb2, hb2'⟩ := hap.push app22 app22 (bls22 (low d : Int)) rfl rfl (by simp; omega) xg.nx
        have ee : ∀ (K : Value → H → Option (Ex × List Value × H)), (bls Tryd.prog g 22 1 [(0, iv (low d : Nat))] fun y h2 => app Tryd.prog h2 22 22 v y K) = K v' g2 := fun K => e2 K
        refine ⟨.normal, [v', iv (d &&& (d - 1) : Nat)], g2, ?_, .inl ⟨rfl, d &&& (d - 1), h2, ⟨by have := xg.nx; omega, fun b hb => ?_⟩, v', d &&& (d - 1), L ++ [low d], rfl, rfl, by omega, ?_, ?_⟩⟩
        · unfold f54_l1
          rw [show AM.gv [v, iv d] 1 = iv d from rfl, show AM.gv [v, iv d] 0 = v from rfl, asI_int, show AM.eq (d : Int) 0 = false by simp; omega, show (!false) = true from rfl, ifB_true, asI_int, wr64u hx, c89, asI_int, ee, asI_int, asI_int, hsub, hand]
          rfl
        · rw [k2 b (by have := xg.nx; omega) (fun e => by have := (hap.blkOf e).1; omega)]
          exact xg.blk b hb
        · rw [← hL, h1]; simp
        · have : cellsN (L ++ [low d]) = cellsN L ++ [[iv (low d : Int)]] := by simp
          rw [this]; exact a2)
    S 2000 (by omega) ⟨.refl _, .slice none 0 0, S, [], rfl, rfl, hS, rfl, .nil⟩
  obtain ⟨h2, e2, m2, w2⟩ := x54 (k := 2000) (n0 := S) (h := h) (h1 := h') (v := v) (by
    unfold f54
    exact (lp_eq hl).trans rfl) (by obtain ⟨x, y, z, hz⟩ := hap.isSl; rw [hz]; rfl)
  exact ⟨v, h2, e2, w2 xg, hap.slR.ext m2.ext⟩

/-- What a node reaches within a set. -/
theorem s72 {tv : Value} {g : List Nat} {W v : Nat} {h : H} (hg : GrB g) (hs : SlR h 3 1 tv (cellsN g)) (hv : v < g.length) (hW : W < 2 ^ g.length) : rn 72 #[tv, iv v, iv W] h = some (iv (rch g W v : Nat), h) := by
  have hlen := hg.len
  have hpow := hg.pow
  have hW' : W < 1024 := Nat.lt_of_lt_of_le hW hpow
  have hinner : ∀ (S : Nat) (nv : Value) (h2 : H), Ext h h2 → S < 2 ^ g.length → SlR h2 3 1 nv (cellsN (elts S)) →
      lpGo (f72_l2 rn 2000 tv W nv (elts S).length) 2000 [iv S, iv 0] h2 = some (.exit 2, [iv (grow g W S : Nat), iv (elts S).length], h2) := by
    intro S nv h2 x2 hS hn
    have hS' : S < 1024 := Nat.lt_of_lt_of_le hS hpow
    have hpl : (elts S).length ≤ 10 := by rw [elts_len]; exact pop_le_n (Nat.le_refl 10) hS'
    have hl := lp_same (σ := Nat) (ρ := Empty) (F := f72_l2 rn 2000 tv W nv (elts S).length) (k := 2000) (l := elts S) (h := h2) (fun i s => [iv s, iv i])
      (fun _ i s => .inl (s ||| (nb g i &&& W))) (fun _ s => s < 1024) (fun _ => .ret) (fun _ => []) 2 (fun s => [iv s, iv (elts S).length]) (ws := [iv S, iv 0]) (s0 := S) rfl hS' (by omega) (by simp)
      (fun _ _ => by simp [f72_l2])
      (by
        intro i x s hx hI
        have hi := (List.getElem?_eq_some_iff.1 hx).1
        have hxS := (mem_elts hS').1 (List.mem_of_getElem? hx)
        have hxl : x < g.length := bit_lt hS hxS
        have hnw : nb g x &&& W < 1024 := Nat.and_lt_two_pow (n := 10) _ hW'
        refine ⟨fun s' hs' => by cases hs'; exact Nat.or_lt_two_pow (n := 10) hI hnw, ?_⟩
        have e1 : ∀ (K : Value → Option (Ex × List Value × H)), (six nv (i : Int) 1 fun b o => (h2.cell b o).bind K) = K (iv x) := fun K => hn.c0 (by omega) (x := [iv x]) (by simp [hx]) rfl K
        have e2 := fun (K : Value → Option (Ex × List Value × H)) => getN (hs.ext x2) hxl K
        have hand : AM.and .i64 (nb g x : Int) (W : Int) = ((nb g x &&& W : Nat) : Int) := and_nat (by have := hg.nb_lt x; omega) (by omega)
        have hor : AM.or .i64 (s : Int) ((nb g x &&& W : Nat) : Int) = ((s ||| (nb g x &&& W) : Nat) : Int) := or_nat (by omega) (by omega)
        have hadd : add .i64 (i : Int) 1 = (i : Int) + 1 := add64 (by omega) (by omega)
        simp [f72_l2, hi, e1, e2, hand, hor, hadd, rnd])
    rw [itL_inl (fun _ i s => s ||| (nb g i &&& W)), foldI_foldl (fun i s => s ||| (nb g i &&& W))] at hl
    exact hl.1
  obtain ⟨e, ws', h', hl, rfl, xg, w, rfl⟩ := lpGo_inv (F := f72_l1 rn 2000 tv W)
    (fun d ws h2 => Ext h h2 ∧ ∃ S : Nat, ws = [iv 0, iv S] ∧ S < 2 ^ g.length ∧ d + pop S = 10 ∧ S.testBit v = true ∧ ∀ u, S.testBit u = true → Rch g W v u)
    (fun e ws h2 => e = .ret ∧ Ext h h2 ∧ ∃ w, ws = [iv (rch g W v : Nat), w])
    (by
      rintro d ws h2 ⟨x2, S, rfl, hS, hd, hSv, hSr⟩
      have hS' : S < 1024 := Nat.lt_of_lt_of_le hS hpow
      obtain ⟨nv, h3, e54, x3w, hn⟩ := s54 hS' h2
      have x3 := x3w.toExt
      have hl := hinner S nv h3 (x2.trans x3) hS hn
      have hnl : ∀ {T : Type} (K : Int → Option T), len nv K = K ((elts S).length : Int) := fun K => by rw [hn.len]; simp
      have start : f72_l1 rn 2000 tv W [iv 0, iv S] h2 = if grow g W S = S then some (.ret, [iv S, iv S], h3) else some (.normal, [iv 0, iv (grow g W S : Nat)], h3) := by
        unfold f72_l1
        rw [show AM.gv [iv 0, iv S] 1 = iv S from rfl, calls_eq (xs := [iv S]) e54, hnl]
        refine (lp_eq hl).trans ?_
        rw [onE_exit, if_pos rfl, show AM.gv [iv (grow g W S : Nat), iv (elts S).length] 0 = iv (grow g W S : Nat) from rfl, asI_int, asI_int]
        by_cases hq : grow g W S = S
        · rw [if_pos hq, hq, show AM.eq (S : Int) (S : Int) = true by simp, ifB_true]; rfl
        · rw [if_neg hq, show AM.eq (grow g W S : Int) (S : Int) = false by simp; omega, ifB_false]; rfl
      rw [start]
      by_cases hq : grow g W S = S
      · rw [if_pos hq]
        refine ⟨_, _, _, rfl, .inr ⟨by simp, rfl, x2.trans x3, iv S, ?_⟩⟩
        rw [rch_eq (g := g) (W := W) (v := v) (by omega) hW' hS' hSv hSr fun a b ha hab hb => by
          rw [← hq, grow_bit hS']
          exact .inr ⟨a, ha, hab, hb⟩]
      · rw [if_neg hq]
        have hsub : ∀ u, S.testBit u = true → (grow g W S).testBit u = true := fun u hu => (grow_bit hS').2 (.inl hu)
        have hglt : grow g W S < 2 ^ g.length := by
          have key : ∀ (L : List Nat) (s : Nat), s < 2 ^ g.length → L.foldl (fun s i => s ||| (nb g i &&& W)) s < 2 ^ g.length := by
            intro L
            induction L with
            | nil => intro s h; exact h
            | cons i L ih => intro s h; exact ih _ (Nat.or_lt_two_pow h (Nat.and_lt_two_pow _ hW))
          exact key _ _ hS
        obtain ⟨i, hi⟩ : ∃ i, (grow g W S).testBit i ≠ S.testBit i := by
          refine Classical.byContradiction fun hc => hq (Nat.eq_of_testBit_eq fun i => Classical.byContradiction fun h => hc ⟨i, h⟩)
        have hSi : S.testBit i = false := by
          cases hh : S.testBit i with
          | false => rfl
          | true => rw [hh, hsub i hh] at hi; exact absurd rfl hi
        have hGi : (grow g W S).testBit i = true := by
          cases hh : (grow g W S).testBit i with
          | true => rfl
          | false => rw [hh, hSi] at hi; exact absurd rfl hi
        have hp := pop_lt (Nat.lt_of_lt_of_le hglt hpow) hsub hGi hSi
        have hp2 := pop_le_n (Nat.le_refl 10) (Nat.lt_of_lt_of_le hglt hpow)
        refine ⟨_, _, _, rfl, .inl ⟨rfl, 10 - pop (grow g W S), by omega, x2.trans x3, grow g W S, rfl, hglt, by omega, hsub v hSv, fun u hu => ?_⟩⟩
        rcases (grow_bit hS').1 hu with h | ⟨a, ha, hab, hb⟩
        · exact hSr u h
        · exact .step (hSr a ha) hab hb)
    (10 - pop (2 ^ v)) 2000 (by omega) ⟨.refl _, 2 ^ v, rfl, Nat.pow_lt_pow_right (by omega) hv, by
      have := pop_le_n (Nat.le_refl 10) (show 2 ^ v < 2 ^ 10 from Nat.pow_lt_pow_right (by omega) (by omega))
      omega, by simp [Nat.testBit_two_pow], fun u hu => by
      rw [Nat.testBit_two_pow] at hu
      have : v = u := by simpa using hu
      subst this
      exact .base⟩
  refine p72 (k := 2000) (h1 := h') ?_ rfl xg
  unfold f72
  rw [nn_ge (by omega), shl1_nat (by omega)]
  refine (lp_eq hl).trans ?_
  rw [onR_ret]
  rfl

/-- All nodes. -/
def allN (g : List Nat) : Nat := 2 ^ g.length - 1

theorem allN_lt (g : List Nat) : allN g < 2 ^ g.length := by have := Nat.two_pow_pos g.length; unfold allN; omega

theorem allN_bit (g : List Nat) (i : Nat) : (allN g).testBit i = decide (i < g.length) := by unfold allN; rw [Nat.testBit_two_pow_sub_one]

theorem shl_all {n : Nat} (h : n ≤ 10) : sub .i64 (AM.shl .i64 1 (n : Int)) 1 = ((2 ^ n - 1 : Nat) : Int) := by
  have h1 : 2 ^ n ≤ 2 ^ 10 := Nat.pow_le_pow_right (by omega) h
  have h2 := Nat.two_pow_pos n
  rw [shl1_nat (by omega), sub64 (by omega) (by omega)]
  omega

theorem s43 {tv : Value} {g : List Nat} {h : H} (hg : GrB g) (hs : SlR h 3 1 tv (cellsN g)) : rn 43 #[tv] h = some (iv (allN g : Nat), h) := by
  have hn : ∀ {T : Type} (K : Int → Option T), len tv K = K (g.length : Int) := fun K => by rw [hs.len]; simp
  refine p43 (k := 0) ?_ rfl (.refl _)
  simp [f43, hn, nn_ge, shl_all hg.len, allN]

/-- Is a set connected, if it is not empty? -/
noncomputable def connS (g : List Nat) (S : Nat) : Bool := decide (S = 0) || decide (rch g S (low S) = S)

theorem low_lt {g : List Nat} {S : Nat} (hg : GrB g) (hS : S < 2 ^ g.length) (h0 : S ≠ 0) : low S < g.length := bit_lt hS (low_bit (Nat.pos_of_ne_zero h0) (Nat.lt_of_lt_of_le hS hg.pow))

theorem s44 {tv : Value} {g : List Nat} {S : Nat} {h : H} (hg : GrB g) (hs : SlR h 3 1 tv (cellsN g)) (hS : S < 2 ^ g.length) : rn 44 #[tv, iv S] h = some (.bool (connS g S), h) := by
  have hS' : S < 1024 := Nat.lt_of_lt_of_le hS hg.pow
  refine p44 (k := 0) ?_ rfl (.refl _)
  unfold f44 connS
  by_cases h0 : S = 0
  · subst h0; simp
  · have c89 := fun (K : Value → H → Option (Value × H)) => calls_eq (K := K) (xs := [.int .u64 S]) (s79 (Nat.pos_of_ne_zero h0) hS' h)
    have c78 := fun (K : Value → H → Option (Value × H)) => calls_eq (K := K) (xs := [tv, iv (low S : Nat), iv S]) (s72 hg hs (low_lt hg hS h0) hS)
    rw [show AM.eq (S : Int) 0 = false by simp; omega, ifB_false, wr64u hS', c89, asI_int, c78, asI_int]
    have : AM.eq (rch g S (low S) : Int) (S : Int) = decide (rch g S (low S) = S) := by
      rw [Bool.eq_iff_iff]; simp; omega
    rw [this, decide_eq_false h0]
    rfl

end Go.AM

end

section

/- Pairs that part a graph. -/
namespace Go.AM
open Go.Proofs
variable {R : Type}
attribute [local simp] nx_eq nx_new nx_set blk_new blk_set asI_int asK_int asB_bool asP_ptr al_eq bx_eq len_slice onE_exit onE_ret onR_ret Value.cells d3 d22 d23 d83 cell_new cell_set rd_new rd_set off eq lt le ifB gv out ext20 ext21
/-- Pairs of numbers, as they stand in a row. -/
abbrev cellsP (l : List (Nat × Nat)) : List (List Value) := l.map fun (q : Nat × Nat) => [iv (q.1 : Int), iv (q.2 : Int)]

theorem app33 : okApp Tryd.prog 33 83 2 = true := by kernel_rfl

theorem kbld83 (a b : Int) (K : Value → Option R) : bld Tryd.prog 83 [(0, .int .i64 a), (1, .int .i64 b)] K = K (.agg #[.int .i64 a, .int .i64 b]) := bld_some (by kernel_rfl)

theorem bls33 (a b : Int) (h : H) : buildSlice Tryd.prog 33 1 [(0, .agg #[.int .i64 a, .int .i64 b])] h = some (.slice (some ⟨h.nx, 0, none⟩) 1 1, h.new (.row [iv a, iv b] 83 true)) := by kernel_rfl

theorem foldI_len {α β : Type} {f : Nat → α → List β → List β} (hf : ∀ i x s, (f i x s).length ≤ s.length + 1) : ∀ (l : List α) (i : Nat) (s : List β), (foldI f l i s).length ≤ s.length + l.length := by
  intro l
  induction l with
  | nil => intro i s; simp [foldI]
  | cons x l ih =>
    intro i s
    have := ih (i + 1) (f i x s)
    have := hf i x s
    simp only [foldI, List.length_cons]
    omega

theorem all_ne {g : List Nat} (hg : GrN g) : allN g ≠ 0 := by
  have h := hg.pos
  have : 2 ^ 1 ≤ 2 ^ g.length := Nat.pow_le_pow_right (by omega) h
  unfold allN
  omega

end Go.AM

end

section

/- Edges, cut nodes, and a town without an edge. -/
namespace Go.AM
open Go.Proofs
variable {R : Type}
attribute [local simp] nx_eq nx_new nx_set blk_new blk_set asI_int asK_int asB_bool asP_ptr al_eq bx_eq len_slice onE_exit onE_ret onR_ret Value.cells d3 d22 d23 d83 cell_new cell_set rd_new rd_set off eq lt le ifB gv out ext20 ext21
theorem SlR.blkR {h : H} {e : TypeId} {s : Nat} {v : Value} {L : List (List Value)} (a : SlR h e s v L) {b : Nat} (hb : blkOf v = some b) : b < h.nx ∧ ∃ cs own, h.blk b = some (.row cs e own) := by
  cases a with
  | nil => cases hb
  | at_ hb' hr => cases hb; exact ⟨hb', _, _, hr⟩

/-- The edges of a node to greater ones. -/
def edgeIn (g : List Nat) (a j : Nat) (acc : List (Nat × Nat)) : List (Nat × Nat) := if adj g a (a + 1 + j) = true then acc ++ [(a, a + 1 + j)] else acc

def edgeRow (g : List Nat) (a : Nat) (acc : List (Nat × Nat)) : List (Nat × Nat) := foldI (fun _ j acc => edgeIn g a j acc) (List.range (g.length - 1 - a)) 0 acc

/-- All edges, in order. -/
def edgesP (g : List Nat) : List (Nat × Nat) := foldI (fun _ a acc => edgeRow g a acc) (List.range g.length) 0 []

theorem edgeIn_len (g : List Nat) (a j : Nat) (acc : List (Nat × Nat)) : (edgeIn g a j acc).length ≤ acc.length + 1 := by
  unfold edgeIn
  split <;> simp

theorem edgeRow_len {g : List Nat} {a : Nat} {acc : List (Nat × Nat)} : (edgeRow g a acc).length ≤ acc.length + g.length := by
  have := foldI_len (f := fun (_ : Nat) (j : Nat) acc => edgeIn g a j acc) (fun i x s => edgeIn_len g a x s) (List.range (g.length - 1 - a)) 0 acc
  unfold edgeRow
  rw [List.length_range] at this
  omega

/-- A loop that appends is the same as a filter. -/
theorem foldI_filter {α β : Type} {p : α → Bool} {f : α → β} : ∀ (l : List α) (i : Nat) (s : List β), foldI (fun _ x acc => if p x = true then acc ++ [f x] else acc) l i s = s ++ (l.filter p).map f := by
  intro l
  induction l with
  | nil => intro i s; simp [foldI]
  | cons x l ih =>
    intro i s
    simp only [foldI]
    rw [ih]
    cases hp : p x <;> simp [List.filter_cons, hp]

theorem edgeRow_eq {g : List Nat} {a : Nat} {acc : List (Nat × Nat)} : edgeRow g a acc = acc ++ ((List.range (g.length - 1 - a)).filter fun j => adj g a (a + 1 + j)).map fun j => (a, a + 1 + j) := by
  unfold edgeRow edgeIn
  exact foldI_filter (p := fun j => adj g a (a + 1 + j)) (f := fun j => (a, a + 1 + j)) _ _ _

/-- The numbers of a set that are greater than a. -/
theorem elts_above {g : List Nat} (hg : GrB g) {a : Nat} (ha : a < g.length) : ((elts (nb g a)).filter fun b => decide (a < b)) = ((List.range (g.length - 1 - a)).filter fun j => adj g a (a + 1 + j)).map fun j => a + 1 + j := by
  have hlen := hg.len
  have h1 : elts (nb g a) = (List.range g.length).filter fun i => (nb g a).testBit i := by
    unfold elts
    rw [show 10 = g.length + (10 - g.length) by omega, List.range_add, List.filter_append]
    have : (((List.range (10 - g.length)).map (g.length + ·)).filter fun i => (nb g a).testBit i) = [] := by
      rw [List.filter_eq_nil_iff]
      intro x hx
      obtain ⟨y, _, rfl⟩ := List.mem_map.1 hx
      rw [big_bit (hg.nb_lt a) (by omega)]
      simp
    rw [this, List.append_nil]
  rw [h1, List.filter_filter]
  have h2 : List.range g.length = List.range (a + 1) ++ (List.range (g.length - 1 - a)).map (a + 1 + ·) := by
    rw [← List.range_add]
    congr 1
    omega
  rw [h2, List.filter_append]
  have h3 : ((List.range (a + 1)).filter fun b => decide (a < b) && (nb g a).testBit b) = [] := by
    rw [List.filter_eq_nil_iff]
    intro x hx
    have := List.mem_range.1 hx
    rw [decide_eq_false (by omega)]
    simp
  rw [h3, List.nil_append, List.filter_map]
  congr 1
  refine List.filter_congr fun j hj => ?_
  simp only [Function.comp_apply]
  rw [decide_eq_true (show a < a + 1 + j by omega)]
  rfl

theorem adj_bit {g : List Nat} (hg : GrB g) {a b : Nat} (hb : b ≤ 64) : AM.and .i64 (shr .i64 (nb g a : Int) (b : Int)) 1 = if adj g a b then 1 else 0 := by
  have h1 := hg.nb_lt a
  have h2 := hg.pow
  exact bit_nat (by omega) hb

/-- The program's edges. -/
theorem edge_loop {nv sv : Value} {g : List Nat} {h0 h : H} {a : Nat} {acc : List (Nat × Nat)} (hg : GrB g) (ha : a < g.length) (x0 : Ext h0 h) (hs : SlR h 3 1 nv (cellsN (elts (nb g a)))) (hap : AqR h0.nx h 83 2 sv (cellsP acc)) (hacc : acc.length ≤ 200) (ws0 : List Value) (hw : AM.gv ws0 1 = iv a) :
    ∃ sv' w' h', lpGo (f77_l2 rn 200 ws0 nv (elts (nb g a)).length) 200 [sv, iv 0] h = some (.exit 2, [sv', w'], h') ∧ Ext h0 h' ∧ AqR h0.nx h' 83 2 sv' (cellsP (edgeRow g a acc)) := by
  have hlen := hg.len
  have hnb : nb g a < 1024 := Nat.lt_of_lt_of_le (hg.nb_lt a) hg.pow
  have hpl : (elts (nb g a)).length ≤ 10 := by rw [elts_len]; exact pop_le_n (Nat.le_refl 10) hnb
  obtain ⟨ws', h', hl, xg, xh, hll, sv', hap', rfl⟩ := lp_for (F := f77_l2 rn 200 ws0 nv (elts (nb g a)).length) (k := 200) (l := elts (nb g a)) (fun _ b acc => if decide (a < b) = true then acc ++ [(a, b)] else acc)
    (fun i acc' ws h' => Ext h0 h' ∧ SlR h' 3 1 nv (cellsN (elts (nb g a))) ∧ acc'.length ≤ acc.length + i ∧ ∃ sv, AqR h0.nx h' 83 2 sv (cellsP acc') ∧ ws = [sv, iv i]) 2 (ws := [sv, iv 0]) (h := h) (s0 := acc)
    ⟨x0, hs, by omega, sv, hap, rfl⟩ (by omega)
    (by
      rintro acc' ws h' ⟨_, _, _, sv, _, rfl⟩
      simp [f77_l2])
    (by
      rintro i b acc' ws h1 hx ⟨x1, hs1, hal, sv, hap1, rfl⟩
      have hi := (List.getElem?_eq_some_iff.1 hx).1
      have hadd : add .i64 (i : Int) 1 = (i : Int) + 1 := add64 (by omega) (by omega)
      have e1 : ∀ (K : Value → Option (Ex × List Value × H)), (six nv (i : Int) 1 fun b o => (h1.cell b o).bind K) = K (iv b) := fun K => hs1.c0 (by omega) (x := [iv b]) (by simp [hx]) rfl K
      have start : f77_l2 rn 200 ws0 nv (elts (nb g a)).length [sv, iv i] h1 = if a < b then
          (bld Tryd.prog 83 [(0, iv a), (1, iv b)] fun v8 => bls Tryd.prog h1 33 1 [(0, v8)] fun v9 h8 => app Tryd.prog h8 33 33 sv v9 fun v10 h9 => AM.out .normal [v10, iv ((i : Int) + 1)] h9) else
          some (.normal, [sv, iv ((i : Int) + 1)], h1) := by
        unfold f77_l2
        rw [show AM.gv [sv, iv i] 1 = iv i from rfl, show AM.gv [sv, iv i] 0 = sv from rfl]
        simp only [asI_int, lt_t (show (i : Int) < (elts (nb g a)).length by omega), ifB_true, asK_int, d3, e1, hw, hadd]
        by_cases h5 : a < b
        · simp [h5]
        · simp [h5]
      rw [start]
      by_cases hp : a < b
      · rw [if_pos hp, kbld83]
        obtain ⟨sv', h2, e2, a2, n2, k2, b2, hb2, hb2'⟩ := hap1.push app33 app33 (bls33 (a : Int) (b : Int)) rfl rfl (by rw [List.length_map]; omega) x1.nx
        rw [e2]
        have hpi : (if decide (a < b) = true then acc' ++ [(a, b)] else acc') = acc' ++ [(a, b)] := by simp [hp]
        have k2' : ∀ q, q < h1.nx → blkOf sv ≠ some q → h2.blk q = h1.blk q := k2
        refine ⟨_, _, rfl, ⟨by have := x1.nx; omega, fun q hq => ?_⟩, ?_, ?_, sv', ?_, rfl⟩
        · rw [k2 q (by have := x1.nx; omega) (fun e => by have := (hap1.blkOf e).1; omega)]
          exact x1.blk q hq
        · refine hs1.keepB n2 fun q hq => k2 q ?_ fun e => ?_
          · exact (hs1.blkR hq).1
          · have h7 := (hap1.blkOf e).2.2
            obtain ⟨_, cs, own, hr⟩ := hs1.blkR hq
            rw [hr] at h7
            simp at h7
        · rw [hpi]; simp; omega
        · rw [hpi]
          have : cellsP (acc' ++ [(a, b)]) = cellsP acc' ++ [[iv (a : Int), iv (b : Int)]] := by simp
          rw [this]; exact a2
      · rw [if_neg hp]
        have hpi : (if decide (a < b) = true then acc' ++ [(a, b)] else acc') = acc' := by simp [hp]
        exact ⟨_, _, rfl, x1, hs1, by rw [hpi]; omega, sv, by rw [hpi]; exact hap1, rfl⟩)
  have he : foldI (fun _ b acc => if decide (a < b) = true then acc ++ [(a, b)] else acc) (elts (nb g a)) 0 acc = edgeRow g a acc := by
    rw [foldI_filter (p := fun b => decide (a < b)) (f := fun b => (a, b)), edgeRow_eq, elts_above hg ha, List.map_map]
    rfl
  rw [he] at hap'
  exact ⟨sv', _, h', hl, xg, hap'⟩

theorem s77 {v : Value} {g : List Nat} {h : H} (hg : GrB g) (hs : SlR h 3 1 v (cellsN g)) :
    ∃ v' h', rn 77 #[v] h = some (v', h') ∧ Exw h h' ∧ AqR h.nx h' 83 2 v' (cellsP (edgesP g)) := by
  have hlen := hg.len
  have hn : ∀ {T : Type} (K : Int → Option T), len v K = K (g.length : Int) := fun K => by rw [hs.len]; simp
  obtain ⟨ws', h', hl, xg, hll, sv', hap', rfl⟩ := lp_for (F := f77_l1 rn 200 v g.length) (k := 200) (l := List.range g.length) (fun _ a acc => edgeRow g a acc)
    (fun i acc' ws h' => Ext h h' ∧ acc'.length ≤ 10 * i ∧ ∃ sv, AqR h.nx h' 83 2 sv (cellsP acc') ∧ ws = [sv, iv i]) 0 (ws := [.slice none 0 0, iv 0]) (h := h) (s0 := [])
    ⟨.refl _, by simp, _, .nil, rfl⟩ (by simp; omega)
    (by
      rintro acc' ws h' ⟨_, _, sv, _, rfl⟩
      rw [List.length_range]
      simp [f77_l1])
    (by
      rintro i x acc' ws h1 hx ⟨x1, hal, sv, hap1, rfl⟩
      obtain ⟨hi, rfl⟩ := range_get hx
      have hadd : add .i64 (x : Int) 1 = (x : Int) + 1 := add64 (by omega) (by omega)
      have e1 := fun (K : Value → Option (Ex × List Value × H)) => getN (hs.ext x1) hi K
      have hnb : nb g x < 1024 := Nat.lt_of_lt_of_le (hg.nb_lt x) hg.pow
      obtain ⟨nv, h2, e54, x2w, hn2⟩ := s54 hnb h1
      have x2 := x2w.toExt
      have c76 := fun (K : Value → H → Option (Ex × List Value × H)) => calls_eq (K := K) (xs := [iv (nb g x : Nat)]) e54
      have hnn : ∀ {T : Type} (K : Int → Option T), len nv K = K ((elts (nb g x)).length : Int) := fun K => by rw [hn2.len]; simp
      obtain ⟨sv', w', h3, hl2, x3, hap2⟩ := edge_loop hg hi (x1.trans x2) hn2 (hap1.ext x2) (by omega) [sv, iv x] rfl
      have hrl := edgeRow_len (g := g) (a := x) (acc := acc')
      refine ⟨[sv', iv ((x : Int) + 1)], h3, ?_, x3, by omega, sv', hap2, rfl⟩
      have hlq := fun (K : Ex → List Value → H → Option (Ex × List Value × H)) => lp_eq (K := K) hl2
      simp [f77_l1, hi, hadd, e1, c76, hnn, hlq])
  obtain ⟨h2, e2, m2, w2⟩ := x77 (k := 200) (v0 := v) (h := h) (h1 := h') (v := sv') (by
    unfold f77
    rw [hn]
    refine (lp_eq hl).trans ?_
    rfl) (by obtain ⟨x, y, z, hz⟩ := hap'.isSl; rw [hz]; rfl)
  exact ⟨sv', h2, e2, w2 xg, hap'.ext m2.ext⟩

end Go.AM

end

section

/- Cut nodes; a town without an edge. -/
namespace Go.AM
open Go.Proofs
variable {R : Type}
attribute [local simp] nx_eq nx_new nx_set blk_new blk_set asI_int asK_int asB_bool asP_ptr al_eq bx_eq len_slice onE_exit onE_ret onR_ret Value.cells d3 d22 d23 d83 d72 w3 cell_new cell_set rd_new rd_set off eq lt le ifB gv out ext20 ext21
/-! ### Cut nodes -/
/-- Is a node a cut node of a set that has it? -/
noncomputable def cutQ (g : List Nat) (S v : Nat) : Bool := !connS g (without (rch g S v) (2 ^ v))

noncomputable def cutsP (g : List Nat) (S : Nat) : Nat := mkS (fun v => S.testBit v && cutQ g S v) 10

theorem cutsP_lt (g : List Nat) (S : Nat) : cutsP g S < 1024 := mkS_lt _ 10

theorem cutsP_bit {g : List Nat} {S v : Nat} (hS : S < 1024) : (cutsP g S).testBit v = true ↔ S.testBit v = true ∧ cutQ g S v = true := by
  unfold cutsP
  rw [mkS_bit, Bool.and_eq_true, Bool.and_eq_true, decide_eq_true_iff]
  exact ⟨And.right, fun h => ⟨bit_lt (n := 10) hS h.1, h⟩⟩

/-- Numbers put into a set one by one. -/
theorem orIf_bit {p : Nat → Bool} {u : Nat} : ∀ (L : List Nat) (i s : Nat), (foldI (fun _ v s => if p v = true then s ||| 2 ^ v else s) L i s).testBit u = true ↔ s.testBit u = true ∨ (u ∈ L ∧ p u = true) := by
  intro L
  induction L with
  | nil => intro i s; simp [foldI]
  | cons v L ih =>
    intro i s
    simp only [foldI]
    rw [ih]
    have h1 : (if p v = true then s ||| 2 ^ v else s).testBit u = true ↔ s.testBit u = true ∨ (u = v ∧ p u = true) := by
      split
      · rename_i hp
        rw [Nat.testBit_or, Nat.testBit_two_pow, Bool.or_eq_true, decide_eq_true_iff]
        constructor
        · rintro (h | h)
          · exact .inl h
          · exact .inr ⟨h.symm, h ▸ hp⟩
        · rintro (h | ⟨h, _⟩)
          · exact .inl h
          · exact .inr h.symm
      · rename_i hp
        constructor
        · exact .inl
        · rintro (h | ⟨rfl, h⟩)
          · exact h
          · exact absurd h hp
    rw [h1, List.mem_cons]
    constructor
    · rintro ((h | ⟨h, h'⟩) | ⟨h, h'⟩)
      · exact .inl h
      · exact .inr ⟨.inl h, h'⟩
      · exact .inr ⟨.inr h, h'⟩
    · rintro (h | ⟨h | h, h'⟩)
      · exact .inl (.inl h)
      · exact .inl (.inr ⟨h, h'⟩)
      · exact .inr ⟨h, h'⟩

theorem orIf_lt {p : Nat → Bool} {n : Nat} : ∀ (L : List Nat) (i s : Nat), s < 2 ^ n → (∀ v ∈ L, v < n) → foldI (fun _ v s => if p v = true then s ||| 2 ^ v else s) L i s < 2 ^ n := by
  intro L
  induction L with
  | nil => intro i s h _; exact h
  | cons v L ih =>
    intro i s h hv
    simp only [foldI]
    refine ih _ _ ?_ fun w hw => hv w (List.mem_cons_of_mem _ hw)
    split
    · exact Nat.or_lt_two_pow h (Nat.pow_lt_pow_right (by omega) (hv v List.mem_cons_self))
    · exact h

theorem rch_ltn {g : List Nat} {W v : Nat} (hg : GrB g) (hv : v < g.length) (hW : W < 2 ^ g.length) : rch g W v < 2 ^ g.length := by
  have hlen := hg.len
  have hW' : W < 1024 := Nat.lt_of_lt_of_le hW hg.pow
  refine Nat.lt_pow_two_of_testBit _ fun i hi => ?_
  rw [Bool.eq_false_iff]
  intro h
  have hr := (rch_bit (by omega) hW').1 h
  cases hr with
  | base => omega
  | step _ _ hb => have := bit_lt hW hb; omega

theorem cut_calc {g : List Nat} {S v : Nat} (hg : GrB g) (hv : v < g.length) (hS : S < 2 ^ g.length) : AM.andNot .i64 (rch g S v : Int) (AM.shl .i64 1 (v : Int)) = ((without (rch g S v) (2 ^ v) : Nat) : Int) := by
  have h1 := rch_lt g S v
  have hlen := hg.len
  have hv' : 2 ^ v < 2 ^ 10 := Nat.pow_lt_pow_right (by omega) (by omega)
  rw [shl1_nat (by omega), andNot_nat (by omega) (by omega)]

theorem s42 {tv : Value} {g : List Nat} {S : Nat} {h : H} (hg : GrB g) (hs : SlR h 3 1 tv (cellsN g)) (hS : S < 2 ^ g.length) : rn 42 #[tv, iv S] h = some (iv (cutsP g S : Nat), h) := by
  have hlen := hg.len
  have hS' : S < 1024 := Nat.lt_of_lt_of_le hS hg.pow
  obtain ⟨nv, h1, e54, x1w, hn⟩ := s54 hS' h
  have x1 := x1w.toExt
  have c76 := fun (K : Value → H → Option (Value × H)) => calls_eq (K := K) (xs := [iv S]) e54
  have hnn : ∀ {T : Type} (K : Int → Option T), len nv K = K ((elts S).length : Int) := fun K => by rw [hn.len]; simp
  have hpl : (elts S).length ≤ 10 := by rw [elts_len]; exact pop_le_n (Nat.le_refl 10) hS'
  have hl := lp_same (σ := Nat) (ρ := Empty) (F := f42_l1 rn 200 tv S nv (elts S).length) (k := 200) (l := elts S) (h := h1) (fun i s => [iv s, iv i])
    (fun _ v s => .inl (if cutQ g S v = true then s ||| 2 ^ v else s)) (fun _ s => s < 1024) (fun _ => .ret) (fun _ => []) 0 (fun s => [iv s, iv (elts S).length]) (ws := [iv 0, iv 0]) (s0 := 0) rfl (by decide) (by omega) (by simp)
    (fun _ _ => by simp [f42_l1])
    (by
      intro i v s hx hI
      have hi := (List.getElem?_eq_some_iff.1 hx).1
      have hv : v < g.length := bit_lt hS ((mem_elts hS').1 (List.mem_of_getElem? hx))
      have hv' : 2 ^ v < 2 ^ 10 := Nat.pow_lt_pow_right (by omega) (by omega)
      refine ⟨fun s' hs' => by cases hs'; split; exact Nat.or_lt_two_pow (n := 10) hI hv'; exact hI, ?_⟩
      have e1 : ∀ (K : Value → Option (Ex × List Value × H)), (six nv (i : Int) 1 fun b o => (h1.cell b o).bind K) = K (iv v) := fun K => hn.c0 (by omega) (x := [iv v]) (by simp [hx]) rfl K
      have c78 := fun (K : Value → H → Option (Ex × List Value × H)) => calls_eq (K := K) (xs := [tv, iv v, iv S]) (s72 hg (hs.ext x1) hv hS)
      have c64 := fun (K : Value → H → Option (Ex × List Value × H)) => calls_eq (K := K) (xs := [tv, iv (without (rch g S v) (2 ^ v) : Nat)]) (s44 hg (hs.ext x1) (without_le _ _ (rch_ltn hg hv hS)))
      have hadd : add .i64 (i : Int) 1 = (i : Int) + 1 := add64 (by omega) (by omega)
      have hor : AM.or .i64 (s : Int) (AM.shl .i64 1 (v : Int)) = ((s ||| 2 ^ v : Nat) : Int) := by rw [shl1_nat (by omega), or_nat (by omega) (by omega)]
      have hcalc := cut_calc hg hv hS
      unfold cutQ
      cases hq : connS g (without (rch g S v) (2 ^ v)) with
      | true => simp [f42_l1, hi, e1, c78, nn_ge (show (0 : Int) ≤ (v : Int) by omega), hcalc, c64, hq, hadd, rnd]
      | false => simp [f42_l1, hi, e1, c78, nn_ge (show (0 : Int) ≤ (v : Int) by omega), hcalc, c64, hq, hadd, hor, rnd])
  rw [itL_inl (fun _ v s => if cutQ g S v = true then s ||| 2 ^ v else s)] at hl
  have he : foldI (fun _ v s => if cutQ g S v = true then s ||| 2 ^ v else s) (elts S) 0 0 = cutsP g S := by
    refine set_ext (n := 10) (orIf_lt (n := 10) _ _ _ (by decide) fun v hv => by have := bit_lt hS ((mem_elts hS').1 hv); omega) (cutsP_lt g S) fun i _ => ?_
    rw [Bool.eq_iff_iff, orIf_bit, cutsP_bit hS', mem_elts hS']
    simp
  rw [he] at hl
  refine p42 (k := 200) (h1 := h1) ?_ rfl x1
  unfold f42
  rw [c76, hnn]
  refine (lp_eq hl.1).trans ?_
  rfl

end Go.AM

end

section

/- A town without an edge: the program's, and the document's. -/
namespace Go.AM
open Go.Proofs
variable {R : Type}
attribute [local simp] nx_eq nx_new nx_set blk_new blk_set asI_int asK_int asB_bool asP_ptr al_eq bx_eq len_slice onE_exit onE_ret onR_ret Value.cells d3 d22 d23 d83 d72 w3 cell_new cell_set rd_new rd_set off eq lt le ifB gv out ext20 ext21
/-- An empty literal that is appended to: no row is written. -/
theorem app_lit_wr {P : Program} {h : H} {e t t' : TypeId} {s b : Nat} {y : Value} {ys : List (List Value)} (ht : okApp P t e s = true) (ht' : okApp P t' e s = true) (hy : SlR h e s y ys) (hm : ys.length < 2 ^ 30) :
    AM.app P h t t' (.slice (some ⟨b, 0, none⟩) 0 0) y (fun _ g => some g.wr) = some h.wr := by
  obtain ⟨i, z, h1, h2, h3, h4, h5, h6, h7⟩ := okApp_spec ht
  obtain ⟨_, _, h1', _⟩ := okApp_spec ht'
  have hsrc := hy.srcAll h6
  have hlen := hy.lenOf
  have h30 : (2:Nat) ^ 30 < U := by decide
  have hc0 : capK 0 = 0 := rfl
  unfold AM.app append
  simp only [h1, h1', h2, h3, hlen, h4, hsrc, Option.bind_some, hc0]
  rw [if_pos ⟨h5, h6, h7⟩]
  by_cases h0 : ys.length = 0
  · rw [if_pos h0]; rfl
  · rw [if_neg h0, if_neg (by omega), if_pos (by omega), if_pos (by omega)]
    rfl

theorem cellsN_scal (g : List Nat) : (cellsN g).flatten.all scal = true := by
  rw [List.all_eq_true]
  intro x hx
  obtain ⟨y, hy, hxy⟩ := List.mem_flatten.1 hx
  obtain ⟨n, _, rfl⟩ := List.mem_map.1 hy
  simp at hxy
  subst hxy
  rfl

/-- A copy by a literal and an append: it owns its row. -/
theorem copy_ia {P : Program} {h : H} {t : TypeId} {y : Value} {g : List Nat} (ht : okApp P t 3 1 = true) (hb : ∀ h : H, buildSlice P t 0 [] h = some (.slice (some ⟨h.nx, 0, none⟩) 0 0, h.new (.row [] 3 true))) (hy : SlR h 3 1 y (cellsN g)) (hg : g ≠ []) (hm : g.length < 1000) :
    ∃ v' h' b, (∀ {T : Type} (K : Value → H → Option T), (bls P h t 0 [] fun v1 h1 => AM.app P h1 t t v1 y K) = K v' h') ∧ Ext h h' ∧ h.nx ≤ b ∧ IA h' b v' (g.map Int.ofNat) ∧ h'.wr = h.wr := by
  have x1 := Ext.new h (.row [] 3 true)
  have hlit : AqR h.nx (h.new (.row [] 3 true)) 3 1 (.slice (some ⟨h.nx, 0, none⟩) 0 0) [] := AqR.lit (l := []) (Nat.le_refl _) rfl (by simp) (by simp)
  obtain ⟨v', h', e, a, n, k, _⟩ := hlit.app ht ht (hy.ext x1) (cellsN_scal g) (by simp; omega) (by rw [nx_new]; omega)
  have hw := app_lit_wr (P := P) (b := h.nx) ht ht (hy.ext x1) (by simp; omega)
  rw [e] at hw
  rw [List.nil_append, ← cellsN_eq] at a
  obtain ⟨b, hb1, _, hia⟩ := a.ia (by simpa using hg)
  refine ⟨v', h', b, fun K => ?_, ⟨by rw [nx_new] at n; omega, fun q hq => ?_⟩, hb1, hia, by simpa [H.new] using hw⟩
  · rw [bls_some (hb h)]; exact e K
  · rw [k q (by rw [nx_new]; omega) (fun e => by cases e; omega)]
    exact x1.blk q hq

/-- A graph without an edge. -/
def delE (g : List Nat) (a b : Nat) : List Nat := (g.set a (without (nb g a) (2 ^ b))).set b (without (nb g b) (2 ^ a))

theorem delE_len (g : List Nat) (a b : Nat) : (delE g a b).length = g.length := by simp [delE]

theorem nb_set {g : List Nat} {a x i : Nat} (ha : a < g.length) : nb (g.set a x) i = if i = a then x else nb g i := by
  unfold nb
  rw [List.getD_eq_getElem?_getD, List.getD_eq_getElem?_getD, List.getElem?_set]
  by_cases h : a = i
  · subst h; simp [ha]
  · rw [if_neg h, if_neg (fun e => h e.symm)]

theorem adj_delE {g : List Nat} {a b u v : Nat} (ha : a < g.length) (hb : b < g.length) (hab : a ≠ b) : adj (delE g a b) u v = (adj g u v && !(decide (u = a ∧ v = b) || decide (u = b ∧ v = a))) := by
  unfold adj delE
  rw [nb_set (by simpa using hb), nb_set ha]
  by_cases h1 : u = b
  · subst h1
    rw [if_pos rfl, testBit_without, Nat.testBit_two_pow]
    have : ¬ u = a := fun e => hab e.symm
    simp [this, eq_comm]
  · rw [if_neg h1]
    by_cases h2 : u = a
    · subst h2
      rw [if_pos rfl, testBit_without, Nat.testBit_two_pow]
      simp [h1, eq_comm]
    · rw [if_neg h2]
      simp [h1, h2]

theorem GrB.delE {g : List Nat} (hg : GrB g) (a b : Nat) : GrB (delE g a b) := by
  refine ⟨by rw [delE_len]; exact hg.len, fun x hx => ?_⟩
  rw [delE_len]
  unfold AM.delE at hx
  rcases List.mem_or_eq_of_mem_set hx with h | rfl
  · rcases List.mem_or_eq_of_mem_set h with h | rfl
    · exact hg.lt x h
    · exact without_le _ _ (hg.nb_lt a)
  · exact without_le _ _ (hg.nb_lt b)

theorem del1_calc {g : List Nat} (hg : GrB g) {a b : Nat} (hb : b < g.length) : AM.andNot .i64 (nb g a : Int) (AM.shl .i64 1 (b : Int)) = ((without (nb g a) (2 ^ b) : Nat) : Int) := by
  have h1 := hg.nb_lt a
  have h2 := hg.pow
  have hlen := hg.len
  have hv' : 2 ^ b < 2 ^ 10 := Nat.pow_lt_pow_right (by omega) (by omega)
  rw [shl1_nat (by omega), andNot_nat (by omega) (by omega)]

end Go.AM

end

section

/- Bridges: the program's and the document's. -/
namespace Go.AM
open Go.Proofs
variable {R : Type}
attribute [local simp] nx_eq nx_new nx_set blk_new blk_set asI_int asK_int asB_bool asP_ptr al_eq bx_eq len_slice onE_exit onE_ret onR_ret Value.cells d3 d22 d23 d83 d72 w3 w83 cell_new cell_set rd_new rd_set off eq lt le ifB gv out ext20 ext21
/-! ### Two numbers of a row that is owned are turned -/
theorem nb_get {g : List Nat} {i : Nat} (hi : i < g.length) : (g.map Int.ofNat)[i]? = some ((nb g i : Nat) : Int) := by
  unfold nb
  rw [List.getElem?_map, List.getD_eq_getElem?_getD, List.getElem?_eq_getElem hi]
  rfl

theorem set_nat {g : List Nat} {i x : Nat} : (g.map Int.ofNat).set i (x : Int) = (g.set i x).map Int.ofNat := by
  rw [List.map_set]; rfl

theorem nb_eq {g : List Nat} {i : Nat} {x : Int} (h : (g.map Int.ofNat)[i]? = some x) : x = ((nb g i : Nat) : Int) := by
  have hi : i < g.length := by have := (List.getElem?_eq_some_iff.1 h).1; simpa using this
  rw [nb_get hi] at h
  exact (Option.some.inj h).symm

/-- The two stores that take an edge away. -/
theorem del_stores {h : H} {bb : Nat} {sv : Value} {g : List Nat} {a b : Nat} (hg : GrB g) (ha : a < g.length) (hb : b < g.length) (hab : a ≠ b) (hia : IA h bb sv (g.map Int.ofNat)) :
    ∃ h', (∀ {T : Type} (K : H → Option T), (six sv (a : Int) 1 fun b0 b1 => (h.cell b0 b1).bind fun v3 => asI .i64 v3 fun n2 => nn (b : Int) (six sv (a : Int) 1 fun b2 b3 =>
        (wrc 1 h b2 b3 (.int .i64 (andNot .i64 n2 (shl .i64 1 b)))).bind fun h3 => six sv (b : Int) 1 fun b4 b5 => (h3.cell b4 b5).bind fun v4 => asI .i64 v4 fun n3 => nn (a : Int) (six sv (b : Int) 1 fun b6 b7 =>
          (wrc 1 h3 b6 b7 (.int .i64 (andNot .i64 n3 (shl .i64 1 a)))).bind K))) = K h') ∧
      IA h' bb sv ((delE g a b).map Int.ofNat) ∧ h'.nx = h.nx ∧ ∀ q, q ≠ bb → h'.blk q = h.blk q := by
  have h1 := hia.set a ((without (nb g a) (2 ^ b) : Nat) : Int)
  rw [set_nat] at h1
  have hnb : nb (g.set a (without (nb g a) (2 ^ b))) b = nb g b := by rw [nb_set ha, if_neg (fun e => hab e.symm)]
  have h2 := h1.set b ((without (nb g b) (2 ^ a) : Nat) : Int)
  rw [set_nat] at h2
  refine ⟨_, fun K => ?_, h2, rfl, fun q hq => ?_⟩
  · rw [hia.get (by omega) (x := (nb g a : Nat)) (by rw [Int.toNat_natCast]; exact nb_get ha), asI_int, nn_ge (by omega), hia.put (by omega) (by simpa using ha), del1_calc hg hb]
    simp only [Int.toNat_natCast]
    rw [hia.wrc (i := a) (by simpa using ha), set_nat, Option.bind_some,
      h1.get (by omega) (x := (nb g b : Nat)) (by rw [Int.toNat_natCast, nb_get (by simpa using hb), hnb]), asI_int, nn_ge (by omega), h1.put (by omega) (by simpa using hb), del1_calc hg ha]
    simp only [Int.toNat_natCast]
    rw [h1.wrc (i := b) (by simpa using hb), set_nat, Option.bind_some]
  · rw [blk_set_ne _ _ _ hq, blk_set_ne _ _ _ hq]

theorem IA.slN {h : H} {bb : Nat} {sv : Value} {g : List Nat} (hia : IA h bb sv (g.map Int.ofNat)) : SlR h 3 1 sv (cellsN g) := by
  have := hia.slR
  rwa [show ((g.map Int.ofNat).map fun z => [iv z]) = cellsN g from cellsN_eq g] at this

theorem s74 {P : Prop} {tv : Value} {g : List Nat} {h : H} (hg : GrB g) (h0 : g ≠ []) (hs : SlR h 3 1 tv (cellsN g)) (k : ∀ v' h' bb, rn 74 #[tv] h = some (v', h') → Exw h h' → h.nx ≤ bb → IA h' bb v' (g.map Int.ofNat) → P) : P := by
  have hlen := hg.len
  obtain ⟨v1, h1, bb, e1, x1, hbb, hia, _⟩ := copy_ia (P := Tryd.prog) (t := 72) (g := g) app72 bls72e hs h0 (by omega)
  obtain ⟨h3, e3, m3, w3'⟩ := x74 (k := 0) (v0 := tv) (h := h) (h1 := h1) (v := v1) (by
    unfold f74 eqv
    have hne : cellsN g ≠ [] := by simpa using h0
    generalize cellsN g = L at hs hne
    cases hs with
    | nil => exact absurd rfl hne
    | @at_ b o c cs own l hb hr hk hc hl hx =>
      rw [some78]
      simp only [ifB_false]
      exact e1 _) (by obtain ⟨c, hc, _⟩ := hia.val; rw [hc]; rfl)
  exact k v1 h3 bb e3 (w3' x1) hbb (hia.ext m3.ext)

/-- The program's town without an edge. -/
theorem s76 {tv : Value} {g : List Nat} {a b : Nat} {h : H} (hg : GrB g) (ha : a < g.length) (hb : b < g.length) (hab : a ≠ b) (hs : SlR h 3 1 tv (cellsN g)) :
    ∃ v' h', rn 76 #[tv, .agg #[iv a, iv b]] h = some (v', h') ∧ Exw h h' ∧ ∃ bb, h.nx ≤ bb ∧ IA h' bb v' ((delE g a b).map Int.ofNat) := by
  have hlen := hg.len
  have xb := Ext.new h (.row [iv a, iv b] 83 true)
  refine s74 hg (by rintro rfl; simp at ha) (hs.ext xb) fun v1 h1 bb e1 x1 hbb hia => ?_
  obtain ⟨h2, e2, hia2, n2, k2⟩ := del_stores hg ha hb hab hia
  rw [nx_new] at hbb
  have hq1 : h1.blk h.nx = some (.row [iv a, iv b] 83 true) := (x1.blk _ (by rw [nx_new]; omega)).trans (blk_new_self _ _)
  have x2 : Ext h h2 := ⟨by have := x1.nx; have := xb.nx; omega, fun q hq => by rw [k2 q (by omega)]; exact (xb.trans x1.toExt).blk q hq⟩
  have c85 := fun (K : Value → H → Option (Value × H)) => calls_eq (K := K) (xs := [tv]) e1
  obtain ⟨h3, e3, m3, w3'⟩ := x76 (k := 0) (v0 := tv) (v1 := .agg #[iv a, iv b]) (h := h) (h1 := h2) (v := v1) (by
    have := e2 (fun h4 => some (v1, h4))
    have h1' := hia.set a ((without (nb g a) (2 ^ b) : Nat) : Int)
    unfold f76
    rw [bx_eq, show (Value.agg #[iv (a : Int), iv (b : Int)]).cells.toList = [iv (a : Int), iv (b : Int)] from rfl, c85]
    rw [hia.get (by omega) (x := (nb g a : Nat)) (by rw [Int.toNat_natCast]; exact nb_get ha), asI_int, nn_ge (by omega), hia.put (by omega) (by simpa using ha), del1_calc hg hb] at this
    simp only [Int.toNat_natCast] at this
    rw [hia.wrc (i := a) (by simpa using ha), Option.bind_some] at this
    simp only [aix_in (show (0 : Int) ≤ 0 by omega) (show (0 : Int) < ((2 : Nat) : Int) by omega), aix_in (show (0 : Int) ≤ 1 by omega) (show (1 : Int) < ((2 : Nat) : Int) by omega), nx_eq, d3, at_, cell_of hq1]
    rw [show ([iv (a : Int), iv (b : Int)] : List Value)[0 + (0 : Int).toNat * 1]? = some (iv a) from rfl, Option.bind_some, asI_int,
      hia.get (by omega) (x := (nb g a : Nat)) (by rw [Int.toNat_natCast]; exact nb_get ha), asI_int]
    rw [show ([iv (a : Int), iv (b : Int)] : List Value)[0 + (1 : Int).toNat * 1]? = some (iv b) from rfl, Option.bind_some, asI_int, nn_ge (by omega),
      hia.put (by omega) (by simpa using ha), w3, del1_calc hg hb]
    simp only [Int.toNat_natCast]
    rw [hia.wrc (i := a) (by simpa using ha), Option.bind_some, cell_set, if_neg (by omega), cell_of hq1]
    rw [show ([iv (a : Int), iv (b : Int)] : List Value)[0 + (1 : Int).toNat * 1]? = some (iv b) from rfl, Option.bind_some, asI_int]
    rw [show (h1.set bb (.row (((g.map Int.ofNat).set a ((without (nb g a) (2 ^ b) : Nat) : Int)).map iv) 3 true)).cell h.nx (0 + (0 : Int).toNat * 1) = some (iv (a : Int)) by rw [cell_set, if_neg (by omega), cell_of hq1]; rfl]
    simp only [Option.bind_some, asI_int, w3]
    exact this) (by obtain ⟨c, hc, _⟩ := hia.val; rw [hc]; rfl)
  exact ⟨v1, h3, e3, w3' x2, bb, by omega, hia2.ext m3.ext⟩

/-! ### Bridges -/
/-- Does a way lead from one end of an edge to the other one without it? -/
noncomputable def roundQ (g : List Nat) (a b : Nat) : Bool := (rch (delE g a b) (allN g) a).testBit b

noncomputable def bridgesP (g : List Nat) : List (Nat × Nat) := (edgesP g).filter fun e => !roundQ g e.1 e.2

theorem allN_delE (g : List Nat) (a b : Nat) : allN (delE g a b) = allN g := by unfold allN; rw [delE_len]

/-- Edges lead from a number to a greater one. -/
theorem mem_edges {g : List Nat} {e : Nat × Nat} : e ∈ edgesP g ↔ e.1 < e.2 ∧ e.2 < g.length ∧ adj g e.1 e.2 = true := by
  have key : ∀ (l : List Nat) (i : Nat) (s : List (Nat × Nat)), e ∈ foldI (fun _ a acc => edgeRow g a acc) l i s ↔ e ∈ s ∨ (e.1 ∈ l ∧ e.1 < e.2 ∧ e.2 < g.length ∧ adj g e.1 e.2 = true) := by
    intro l
    induction l with
    | nil => intro i s; simp [foldI]
    | cons a l ih =>
      intro i s
      simp only [foldI]
      rw [ih, edgeRow_eq, List.mem_append, List.mem_map]
      constructor
      · rintro ((h | ⟨j, hj, rfl⟩) | h)
        · exact .inl h
        · rw [List.mem_filter, List.mem_range] at hj
          exact .inr ⟨List.mem_cons_self, by simp only; omega, by simp only; omega, hj.2⟩
        · exact .inr ⟨List.mem_cons_of_mem _ h.1, h.2⟩
      · rintro (h | ⟨h1, h2, h3, h4⟩)
        · exact .inl (.inl h)
        · rcases List.mem_cons.1 h1 with h5 | h5
          · refine .inl (.inr ⟨e.2 - a - 1, ?_, Prod.ext h5.symm (by simp only; omega)⟩)
            rw [List.mem_filter, List.mem_range]
            refine ⟨by omega, ?_⟩
            rw [show a + 1 + (e.2 - a - 1) = e.2 by omega, ← h5]
            exact h4
          · exact .inr ⟨h5, h2, h3, h4⟩
  unfold edgesP
  rw [key]
  constructor
  · rintro (h | h)
    · simp at h
    · exact h.2
  · intro h
    exact .inr ⟨List.mem_range.2 (by omega), h⟩

theorem edges_len (g : List Nat) (hg : GrB g) : (edgesP g).length ≤ 100 := by
  have hlen := hg.len
  have key : ∀ (l : List Nat) (i : Nat) (s : List (Nat × Nat)), (foldI (fun _ a acc => edgeRow g a acc) l i s).length ≤ s.length + 10 * l.length := by
    intro l
    induction l with
    | nil => intro i s; simp [foldI]
    | cons a l ih =>
      intro i s
      simp only [foldI, List.length_cons]
      have h1 := ih (i + 1) (edgeRow g a s)
      have h2 := edgeRow_len (g := g) (a := a) (acc := s)
      omega
  have := key (List.range g.length) 0 []
  unfold edgesP
  simp at this
  omega

theorem round_bit {g : List Nat} {a b : Nat} (hb : b < 11) : AM.and .i64 (shr .i64 (rch (delE g a b) (allN g) a : Int) (b : Int)) 1 = if roundQ g a b then 1 else 0 := by
  have := rch_lt (delE g a b) (allN g) a
  exact bit_nat (by omega) (by omega)

end Go.AM

end

section

/- The program's bridges: edges are deleted in place. -/
namespace Go.AM
open Go.Proofs
variable {R : Type}
attribute [local simp] nx_eq nx_new nx_set blk_new blk_set asI_int asK_int asB_bool asP_ptr al_eq bx_eq len_slice onE_exit onE_ret onR_ret Value.cells d3 d22 d23 d83 d72 w3 w83 cell_new cell_set rd_new rd_set off eq lt le ifB gv out ext20 ext21
/-- All but one row stay as they are. -/
structure Kp (o : Option Nat) (h g : H) : Prop where
  nx : h.nx ≤ g.nx
  blk : ∀ b, b < h.nx → o ≠ some b → g.blk b = h.blk b

theorem Kp.refl (o : Option Nat) (h : H) : Kp o h h := ⟨Nat.le_refl _, fun _ _ _ => rfl⟩

theorem Kp.ext {o : Option Nat} {h g g' : H} (k : Kp o h g) (x : Ext g g') : Kp o h g' := ⟨Nat.le_trans k.nx x.nx, fun b hb ho => by rw [x.blk b (Nat.lt_of_lt_of_le hb k.nx)]; exact k.blk b hb ho⟩

theorem Kp.set {b : Nat} {h g : H} (k : Kp (some b) h g) (c : Blk) : Kp (some b) h (g.set b c) := ⟨k.nx, fun q hq ho => by rw [blk_set_ne _ _ _ (fun e => ho (by rw [e]))]; exact k.blk q hq ho⟩

theorem Kp.sm {o : Option Nat} {h g g' : H} (k : Kp o h g) (x : Sm g g') : Kp o h g' := k.ext x.ext

/-- Is an edge in a cycle? The closure. -/
theorem s107 {q : Nat} {tv : Value} {g : List Nat} {a b : Nat} {h : H} (hg : GrB g) (ha : a < g.length) (hb : b < g.length) (hab : a ≠ b) (hq : h.blk q = some (.row [tv] 72 true)) (hqn : q < h.nx) (hs : SlR h 3 1 tv (cellsN g)) :
    rn 107 #[.agg #[iv a, iv b], pt q 0] h = some (.bool (roundQ g a b), h) := by
  have hlen := hg.len
  have xb := Ext.new h (.row [iv a, iv b] 83 true)
  obtain ⟨wv, h2, e76, x2, bb, hbb, hia⟩ := s76 hg ha hb hab (hs.ext xb)
  have c87 := fun (K : Value → H → Option (Value × H)) => calls_eq (K := K) (xs := [tv, .agg #[iv a, iv b]]) e76
  have hb1 : (h.new (.row [iv a, iv b] 83 true)).blk h.nx = some (.row [iv a, iv b] 83 true) := blk_new_self _ _
  have hb2 : h2.blk h.nx = some (.row [iv a, iv b] 83 true) := (x2.blk _ (by rw [nx_new]; omega)).trans hb1
  have hgd := hg.delE a b
  have hwv := hia.slN
  have c65 := fun (K : Value → H → Option (Value × H)) => calls_eq (K := K) (xs := [wv]) (s43 hgd hwv)
  have c78 := fun (K : Value → H → Option (Value × H)) => calls_eq (K := K) (xs := [wv, iv a, iv (allN (delE g a b) : Nat)]) (s72 hgd hwv (by rw [delE_len]; exact ha) (allN_lt _))
  rw [allN_delE] at c78 c65
  have hqc : (h.new (.row [iv a, iv b] 83 true)).cell q 0 = some tv := by rw [cell_new, if_neg (by omega), cell_of hq]; rfl
  have hlt2 : h.nx < h2.nx := by have := x2.nx; rw [nx_new] at this; omega
  have hbit := round_bit (g := g) (a := a) (b := b) (by omega)
  refine p107 (k := 0) (h1 := h2) ?_ rfl (xb.trans x2.toExt)
  unfold f107
  rw [bx_eq, show (Value.agg #[iv (a : Int), iv (b : Int)]).cells.toList = [iv (a : Int), iv (b : Int)] from rfl, asP_ptr, d72, hqc, Option.bind_some, nx_eq, d83, rd_all (n := 2) hb1 rfl, Option.bind_some]
  rw [show (Value.agg [iv (a : Int), iv (b : Int)].toArray) = .agg #[iv (a : Int), iv (b : Int)] from rfl, c87]
  simp only [aix_in (show (0 : Int) ≤ 0 by omega) (show (0 : Int) < ((2 : Nat) : Int) by omega), aix_in (show (0 : Int) ≤ 1 by omega) (show (1 : Int) < ((2 : Nat) : Int) by omega), nx_eq, d3, at_, cell_of hb2]
  rw [show ([iv (a : Int), iv (b : Int)] : List Value)[0 + (0 : Int).toNat * 1]? = some (iv a) from rfl]
  simp only [Option.bind_some, asI_int, c65, freq, same_self, decide_eq_true hlt2, Bool.and_self, ck_true, c78, cell_of hb2]
  rw [show ([iv (a : Int), iv (b : Int)] : List Value)[0 + (1 : Int).toNat * 1]? = some (iv b) from rfl]
  simp only [Option.bind_some, asI_int, nn_ge (show (0 : Int) ≤ (b : Int) by omega), hbit]
  cases roundQ g a b <;> rfl

/-- Where is the first element with a property? -/
theorem s116 {v : Value} {cb : Nat} {L : List (Nat × Nat)} {p : Nat × Nat → Bool} {h : H} (hs : SlR h 83 2 v (cellsP L)) (hm : L.length < 1000)
    (hp : ∀ e ∈ L, rn 107 #[.agg #[iv e.1, iv e.2], pt cb 0] h = some (.bool (p e), h)) :
    (∃ (i : Nat) (x : Nat × Nat), L[i]? = some x ∧ p x = true ∧ (∀ (j : Nat) (y : Nat × Nat), j < i → L[j]? = some y → p y = false) ∧ rn 116 #[v, .func (.func 107) #[] #[pt cb 0]] h = some (iv i, h)) ∨
    ((∀ x ∈ L, p x = false) ∧ rn 116 #[v, .func (.func 107) #[] #[pt cb 0]] h = some (iv (-1), h)) := by
  have hn : ∀ {T : Type} (K : Int → Option T), len v K = K (L.length : Int) := fun K => by rw [hs.len]; simp
  have hlp := lp_all (F := f116_l1 rn 2000 v (.func (.func 107) #[] #[pt cb 0]) L.length) (k := 2000) (l := L) (h := h) (fun i => [iv 0, iv i])
    (fun _ x => !p x) (fun i => [iv i, iv i]) 0 [iv 0, iv L.length] (ws := [iv 0, iv 0]) rfl (by omega)
    (by simp [f116_l1])
    (by
      intro i x hx
      have hi := (List.getElem?_eq_some_iff.1 hx).1
      have hadd : add .i64 (i : Int) 1 = (i : Int) + 1 := add64 (by omega) (by omega)
      have e1 : ∀ (K : Value → Option (Ex × List Value × H)), (six v (i : Int) 2 fun b o => ld Tryd.prog h 83 b o K) = K (.agg #[iv x.1, iv x.2]) := fun K => hs.ldA ag83 sz83 (by omega) (x := [iv x.1, iv x.2]) (by simp [hx]) K
      have c103 := fun (K : Value → H → Option (Ex × List Value × H)) => calls_eq (K := K) (xs := [.agg #[iv x.1, iv x.2], pt cb 0]) (hp x (List.mem_of_getElem? hx))
      unfold f116_l1
      rw [show AM.gv [iv 0, iv i] 1 = iv i from rfl, asI_int, lt_t (by omega), ifB_true, asK_int]
      rw [e1, callsV_eq]
      rw [show (#[] : Array Value).toList ++ [Value.agg #[iv x.1, iv x.2]] ++ (#[pt cb 0] : Array Value).toList = [.agg #[iv x.1, iv x.2], pt cb 0] from rfl, c103, asB_bool]
      cases p x <;> simp [hadd])
  rcases hlp with ⟨i, x, hx, hf, hbe, hl⟩ | ⟨hall, hl⟩
  · refine .inl ⟨i, x, hx, by simpa using hf, fun j y hj hy => by simpa using hbe j y hj hy, ?_⟩
    refine p116 (k := 2000) (h1 := h) ?_ rfl (.refl _)
    unfold f116
    rw [hn]
    exact (lp_eq hl).trans rfl
  · refine .inr ⟨fun x hx => ?_, ?_⟩
    · obtain ⟨i, hi, rfl⟩ := List.getElem_of_mem hx
      simpa using hall i _ (List.getElem?_eq_getElem hi)
    refine p116 (k := 2000) (h1 := h) ?_ rfl (.refl _)
    unfold f116
    rw [hn]
    exact (lp_eq hl).trans rfl

theorem pairs_len (L : List (Nat × Nat)) : (cellsP L).flatten.length = L.length * 2 := by
  rw [flatten_len (s := 2) (fun x hx => by obtain ⟨e, _, rfl⟩ := List.mem_map.1 hx; rfl), List.length_map]

/-- One pair of a row is written. -/
theorem wrc_pair {h : H} {b : Nat} {A B : List (Nat × Nat)} {x e : Nat × Nat} (hb : h.blk b = some (.row (cellsP (A ++ x :: B)).flatten 83 true)) :
    wrc 2 h b (A.length * 2) (.agg #[iv e.1, iv e.2]) = some (h.set b (.row (cellsP (A ++ e :: B)).flatten 83 true)) := by
  unfold wrc
  rw [hb]
  simp only
  rw [if_pos ⟨rfl, by rw [pairs_len]; simp [Value.cells]; omega, rfl⟩]
  congr 3
  have h1 : (cellsP (A ++ x :: B)).flatten = (cellsP A).flatten ++ ([iv x.1, iv x.2] ++ (cellsP B).flatten) := by simp
  have h2 : (cellsP (A ++ e :: B)).flatten = (cellsP A).flatten ++ ([iv e.1, iv e.2] ++ (cellsP B).flatten) := by simp
  rw [h1, h2, ← pairs_len A]
  exact setAt_mid [iv e.1, iv e.2] _ [iv x.1, iv x.2] _ rfl

theorem zero32 : zero? Tryd.prog 83 = some (.agg #[iv 0, iv 0]) := by kernel_rfl

theorem under33 : Tryd.prog.underlying 33 = some (.slice 83) := by kernel_rfl

theorem zeros_eq (m : Nat) : ((List.range (m * 2)).map fun i => (#[iv 0, iv 0] : Array Value)[i % 2]!) = (cellsP (List.replicate m (0, 0))).flatten := by
  have h1 : ((List.range (m * 2)).map fun i => (#[iv 0, iv 0] : Array Value)[i % 2]!) = List.replicate (m * 2) (iv 0) := by
    rw [List.eq_replicate_iff]
    refine ⟨by simp, fun x hx => ?_⟩
    obtain ⟨i, _, rfl⟩ := List.mem_map.1 hx
    have : i % 2 = 0 ∨ i % 2 = 1 := by omega
    rcases this with h | h <;> rw [h] <;> rfl
  have h2 : (cellsP (List.replicate m (0, 0))).flatten = List.replicate (m * 2) (iv 0) := by
    rw [List.eq_replicate_iff]
    refine ⟨by rw [pairs_len]; simp, fun x hx => ?_⟩
    obtain ⟨y, hy, hxy⟩ := List.mem_flatten.1 hx
    obtain ⟨e, he, rfl⟩ := List.mem_map.1 hy
    have := List.eq_of_mem_replicate he
    subst this
    simpa using hxy
  rw [h1, h2]

theorem row_slR {h : H} {b c n : Nat} {M : List (Nat × Nat)} (hb : b < h.nx) (hr : h.blk b = some (.row (cellsP M).flatten 83 true)) (hn : M.length = n) (hm : n < 2 ^ 30) (hc : c = U + n ∨ c = n) : SlR h 83 2 (.slice (some ⟨b, 0, none⟩) n c) (cellsP M) := by
  subst hn
  have a : AqR 0 h 83 2 (.slice (some ⟨b, 0, none⟩) (cellsP M).length c) (cellsP M) := .at_ (Nat.zero_le _) hb hr (fun x hx => by obtain ⟨e, _, rfl⟩ := List.mem_map.1 hx; rfl) (by simpa using hm) (by simpa using hc)
  simpa using a.slR

theorem sli_lo {h : H} {b c n i : Nat} {cs : List Value} (hr : h.blk b = some (.row cs 83 true)) (hi : i < n) (hm : n < 2 ^ 30) (hc : c = U + n ∨ c = n) : ∃ c', ∀ {T : Type} (K : Value → Option T), sli Tryd.prog h 33 (.slice (some ⟨b, 0, none⟩) n c) (some (iv i)) none none K = K (.slice (some ⟨b, i * 2, none⟩) (n - i) c') := by
  have h30 : (2:Nat) ^ 30 < U := by decide
  have hbd : bound (some (iv i)) n 0 = some i := by
    simp only [bound]
    rw [if_pos ⟨by omega, by omega⟩, Int.toNat_natCast]
  rcases hc with rfl | rfl
  · refine ⟨U + (n - i), fun K => ?_⟩
    unfold sli slice
    simp only [under33, hr, capK_U]
    rw [if_pos ⟨trivial, by omega, rfl⟩, sz83]
    simp only [Option.bind_some, show bound none n n = some n from rfl, hbd]
    rw [if_neg (by simp)]
    simp
  · have hk : capK c = c := by unfold capK; rw [if_pos (by omega)]
    refine ⟨c - i, fun K => ?_⟩
    unfold sli slice
    simp only [under33, hr, hk]
    rw [if_pos ⟨trivial, by omega, rfl⟩, sz83]
    simp only [Option.bind_some, show bound none c c = some c from rfl, hbd]
    rw [if_pos (by right; omega), if_neg (by omega)]
    simp

theorem clr_pairs {h : H} {b c' : Nat} {F G : List (Nat × Nat)} (hr : h.blk b = some (.row (cellsP (F ++ G)).flatten 83 true)) (hG : G.length ≠ 0) (K : H → Option R) :
    clr Tryd.prog h 33 (.slice (some ⟨b, F.length * 2, none⟩) G.length c') K = K (h.set b (.row (cellsP (F ++ List.replicate G.length (0, 0))).flatten 83 true)) := by
  have hz := zeros_eq G.length
  have hsc : ((cellsP (List.replicate G.length (0, 0))).flatten).all scal = true := by
    rw [List.all_eq_true]
    intro x hx
    obtain ⟨y, hy, hxy⟩ := List.mem_flatten.1 hx
    obtain ⟨e, he, rfl⟩ := List.mem_map.1 hy
    simp at hxy
    rcases hxy with rfl | rfl <;> rfl
  unfold clr clearS
  simp only [under33]
  rw [if_neg hG, zero32]
  simp only [Option.bind_some, hr]
  rw [show (Value.agg #[iv 0, iv 0]).cells = #[iv 0, iv 0] from rfl, show (#[iv 0, iv 0] : Array Value).size = 2 from rfl, hz]
  rw [if_pos ⟨by rw [pairs_len]; simp; omega, hsc⟩]
  simp only [Option.bind_some]
  congr 3
  have h1 : (cellsP (F ++ G)).flatten = (cellsP F).flatten ++ ((cellsP G).flatten ++ []) := by simp
  have h2 : (cellsP (F ++ List.replicate G.length (0, 0))).flatten = (cellsP F).flatten ++ ((cellsP (List.replicate G.length (0, 0))).flatten ++ []) := by simp
  rw [h1, h2, ← pairs_len F]
  exact setAt_mid _ _ _ _ (by rw [pairs_len, pairs_len]; simp)

set_option maxHeartbeats 2000000 in
/-- Elements with a property are deleted. -/
theorem s106 {v : Value} {cb lo : Nat} {L : List (Nat × Nat)} {p : Nat × Nat → Bool} {h : H} (hap : AqR lo h 83 2 v (cellsP L)) (hm : L.length < 1000)
    (hp : ∀ g, Kp (blkOf v) h g → ∀ e ∈ L, rn 107 #[.agg #[iv e.1, iv e.2], pt cb 0] g = some (.bool (p e), g)) :
    ∃ v' h', rn 106 #[v, .func (.func 107) #[] #[pt cb 0]] h = some (v', h') ∧ Kp (blkOf v) h h' ∧ SlR h' 83 2 v' (cellsP (L.filter fun e => !p e)) := by
  have hs := hap.slR
  have hn : ∀ {T : Type} (K : Int → Option T), len v K = K (L.length : Int) := fun K => by rw [hs.len]; simp
  rcases s116 hs hm (hp h (.refl _ _)) with ⟨i0, x0, hx0, hp0, hbe, e116⟩ | ⟨hall, e116⟩
  · have c115 := fun (K : Value → H → Option (Value × H)) => calls_eq (K := K) (xs := [v, .func (.func 107) #[] #[pt cb 0]]) e116
    have hi0 := (List.getElem?_eq_some_iff.1 hx0).1
    obtain ⟨b, c, rfl, hlo, hbn, hrow, hc⟩ : ∃ b c, v = .slice (some ⟨b, 0, none⟩) L.length c ∧ lo ≤ b ∧ b < h.nx ∧ h.blk b = some (.row (cellsP L).flatten 83 true) ∧ (c = U + L.length ∨ c = L.length) := by
      generalize hL : cellsP L = LL at hap
      cases hap with
      | nil => have := congrArg List.length hL; rw [List.length_map] at this; simp at this; subst this; simp at hi0
      | @at_ b c l hlo hb hr hx hm2 hc =>
        have := congrArg List.length hL
        rw [List.length_map] at this
        rw [← this] at hc ⊢
        exact ⟨b, c, rfl, hlo, hb, hr, hc⟩
    have hbo : blkOf (.slice (some ⟨b, 0, none⟩) L.length c) = some b := rfl
    rw [hbo] at hp ⊢
    have hfil0 : (L.take (i0 + 1)).filter (fun e => !p e) = L.take i0 := by
      rw [List.take_add_one, hx0]
      simp only [Option.toList_some, List.filter_append]
      have h1 : (L.take i0).filter (fun e => !p e) = L.take i0 := by
        rw [List.filter_eq_self]
        intro y hy
        obtain ⟨j, hj, rfl⟩ := List.getElem_of_mem hy
        rw [List.length_take] at hj
        have := hbe j _ (by omega) (List.getElem?_eq_getElem (show j < L.length by omega))
        rw [List.getElem_take, this]; rfl
      rw [h1]; simp [hp0]
    obtain ⟨e, ws', h', hl, rfl, kp, F, G, w, rfl, hfg, hF, hFl, hrow'⟩ := lpGo_inv (F := f106_l1 rn 2000 (.slice (some ⟨b, 0, none⟩) L.length c) (.func (.func 107) #[] #[pt cb 0]))
      (fun d ws g => Kp (some b) h g ∧ ∃ (F G : List (Nat × Nat)) (j : Nat), ws = [iv F.length, iv j] ∧ F.length + G.length = j ∧ j + d = L.length ∧ F = (L.take j).filter (fun e => !p e) ∧ F.length < j ∧ g.blk b = some (.row (cellsP (F ++ G ++ L.drop j)).flatten 83 true))
      (fun e ws g => e = .exit 0 ∧ Kp (some b) h g ∧ ∃ (F G : List (Nat × Nat)) (w : Value), ws = [iv F.length, w] ∧ F.length + G.length = L.length ∧ F = L.filter (fun e => !p e) ∧ F.length < L.length ∧ g.blk b = some (.row (cellsP (F ++ G)).flatten 83 true))
      (by
        rintro d ws g ⟨kp, F, G, j, rfl, hfg, hd, hF, hFl, hrow⟩
        have hbg : b < g.nx := Nat.lt_of_lt_of_le hbn kp.nx
        by_cases hd0 : d = 0
        · subst hd0
          have hj : j = L.length := by omega
          subst hj
          rw [List.take_length] at hF
          rw [List.drop_length, List.append_nil] at hrow
          refine ⟨.exit 0, [iv F.length, iv L.length], g, ?_, .inr ⟨by simp, rfl, kp, F, G, _, rfl, hfg, hF, hFl, hrow⟩⟩
          simp [f106_l1]
        · have hjl : j < L.length := by omega
          have hxj := List.getElem?_eq_getElem hjl
          generalize L[j] = e at hxj
          have hdrop : L.drop j = e :: L.drop (j + 1) := by
            rw [List.drop_eq_getElem_cons hjl]
            congr 1
            rw [List.getElem?_eq_getElem hjl] at hxj
            exact Option.some.inj hxj
          have hML : (F ++ G ++ L.drop j).length = L.length := by simp; omega
          have hsl := row_slR hbg hrow hML (by omega) hc
          have hMj : (F ++ G ++ L.drop j)[j]? = some e := by
            rw [List.getElem?_append_right (by simp; omega)]
            simp [hfg, hxj]
          have e1 : ∀ (K : Value → Option (Ex × List Value × H)), (six (.slice (some ⟨b, 0, none⟩) L.length c) (j : Int) 2 fun b o => ld Tryd.prog g 83 b o K) = K (.agg #[iv e.1, iv e.2]) := fun K =>
            hsl.ldA ag83 sz83 (by omega) (x := [iv e.1, iv e.2]) (by rw [Int.toNat_natCast, List.getElem?_map, hMj]; rfl) K
          obtain ⟨g3, hg3⟩ : ∃ g3, g3 = (g.new (.row [.int .i64 0, .int .i64 0] 83 true)).set g.nx (.row [iv e.1, iv e.2] 83 true) := ⟨_, rfl⟩
          have hb3 : g3.blk g.nx = some (.row [iv e.1, iv e.2] 83 true) := by rw [hg3]; exact blk_set_self _ _ _
          have x3 : Ext g g3 := by rw [hg3]; exact ((Ext.refl g).new' _).set (Nat.le_refl _) _
          have kp3 := kp.ext x3
          have w2 : ∀ (K : H → Option (Ex × List Value × H)), (wrc 2 (g.new (.row [.int .i64 0, .int .i64 0] 83 true)) g.nx 0 (.agg #[iv e.1, iv e.2])).bind K = K g3 := fun K => by
            rw [hg3]
            unfold wrc
            rw [blk_new_self]
            rfl
          have hemem := List.mem_of_getElem? hxj
          have c103 := fun (K : Value → H → Option (Ex × List Value × H)) => calls_eq (K := K) (xs := [.agg #[iv e.1, iv e.2], pt cb 0]) (hp g3 kp3 e hemem)
          have hrow3 : g3.blk b = some (.row (cellsP (F ++ G ++ L.drop j)).flatten 83 true) := (x3.blk b hbg).trans hrow
          have hadd : add .i64 (j : Int) 1 = ((j + 1 : Nat) : Int) := by rw [add64 (by omega) (by omega)]; omega
          have hadd2 : add .i64 (F.length : Int) 1 = ((F.length + 1 : Nat) : Int) := by rw [add64 (by omega) (by omega)]; omega
          have htake : (L.take (j + 1)).filter (fun e => !p e) = F ++ (if p e = true then [] else [e]) := by
            rw [List.take_add_one, hxj]
            simp only [Option.toList_some, List.filter_append]
            rw [← hF]
            cases hpe : p e <;> simp [hpe]
          have start : f106_l1 rn 2000 (.slice (some ⟨b, 0, none⟩) L.length c) (.func (.func 107) #[] #[pt cb 0]) [iv F.length, iv j] g =
              if p e = true then some (.normal, [iv F.length, iv ((j + 1 : Nat) : Int)], g3) else
              (wrc 2 g3 b (F.length * 2) (.agg #[iv e.1, iv e.2])).bind fun g6 => some (.normal, [iv ((F.length + 1 : Nat) : Int), iv ((j + 1 : Nat) : Int)], g6) := by
            unfold f106_l1
            rw [show AM.gv [iv F.length, iv j] 1 = iv j from rfl, show AM.gv [iv F.length, iv j] 0 = iv F.length from rfl, len_slice, asI_int, lt_t (by omega), ifB_true, asK_int]
            rw [e1, al_eq, w83, nx_eq, w2]
            simp only [nx_eq, d83, show g3.rd g.nx 0 2 = some [iv (e.1 : Int), iv (e.2 : Int)] from rd_all hb3 rfl, Option.bind_some]
            rw [callsV_eq, show (#[] : Array Value).toList ++ [Value.agg [iv (e.1 : Int), iv (e.2 : Int)].toArray] ++ (#[pt cb 0] : Array Value).toList = [.agg #[iv e.1, iv e.2], pt cb 0] from rfl, c103, asB_bool]
            cases hpe : p e with
            | true => simp [hadd]
            | false =>
              rw [if_neg (by simp), show (!false) = true from rfl, ifB_true, show g3.rd g.nx 0 2 = some [iv (e.1 : Int), iv (e.2 : Int)] from rd_all hb3 rfl, Option.bind_some, asK_int, six_in (by omega) (by omega), w83]
              simp only [Int.toNat_natCast, Nat.zero_add, asI_int, hadd, hadd2]
              rfl
          rw [start]
          by_cases hpe : p e = true
          · rw [if_pos hpe]
            rw [if_pos hpe, List.append_nil] at htake
            refine ⟨_, _, _, rfl, .inl ⟨rfl, d - 1, by omega, kp3, F, G ++ [e], j + 1, rfl, by simp; omega, by omega, htake.symm, by omega, ?_⟩⟩
            rw [hrow3, hdrop]
            simp
          · rw [if_neg hpe]
            rw [if_neg hpe] at htake
            obtain ⟨y, G', rfl⟩ : ∃ y G', G = y :: G' := by
              cases G with
              | nil => simp at hfg; omega
              | cons y G' => exact ⟨y, G', rfl⟩
            have hrow3' : g3.blk b = some (.row (cellsP (F ++ y :: (G' ++ L.drop j))).flatten 83 true) := by rw [hrow3]; simp
            rw [wrc_pair hrow3', Option.bind_some]
            refine ⟨_, _, _, rfl, .inl ⟨rfl, d - 1, by omega, kp3.set _, F ++ [e], G' ++ [e], j + 1, by simp, by simp at hfg ⊢; omega, by omega, htake.symm, by simp; omega, ?_⟩⟩
            rw [blk_set_self, hdrop]
            simp)
      (L.length - (i0 + 1)) 2000 (by omega) (ws := [iv i0, iv ((i0 + 1 : Nat) : Int)]) (h := h) ⟨.refl _ _, L.take i0, [x0], i0 + 1, by simp; omega, by simp; omega, by omega, hfil0.symm, by simp; omega, by
        have hL : L = L.take i0 ++ [x0] ++ L.drop (i0 + 1) := by
          have h1 : L[i0] = x0 := by rw [List.getElem?_eq_getElem hi0] at hx0; exact Option.some.inj hx0
          rw [List.append_assoc, List.singleton_append, ← h1, ← List.drop_eq_getElem_cons hi0, List.take_append_drop]
        rw [← hL]; exact hrow⟩
    have hbh : b < h'.nx := Nat.lt_of_lt_of_le hbn kp.nx
    obtain ⟨c', hsl⟩ := sli_lo (n := L.length) (c := c) hrow' hFl (by omega) hc
    have hGl : G.length = L.length - F.length := by omega
    rw [← hGl] at hsl
    have hrow8 : (h'.set b (.row (cellsP (F ++ List.replicate G.length (0, 0))).flatten 83 true)).blk b = some (.row (cellsP (F ++ List.replicate G.length (0, 0))).flatten 83 true) := blk_set_self _ _ _
    have hs8 := row_slR (n := L.length) (c := c) (h := h'.set b (.row (cellsP (F ++ List.replicate G.length (0, 0))).flatten 83 true)) hbh hrow8 (by simp; omega) (by omega) hc
    obtain ⟨v8, hv8, e19⟩ := hs8.take (i := (F.length : Int)) under33 sz83 (by omega) (by simp; omega)
    have hadd : add .i64 (i0 : Int) 1 = ((i0 + 1 : Nat) : Int) := by rw [add64 (by omega) (by omega)]; omega
    obtain ⟨h9, e9, m9, _⟩ := x106 (k := 2000) (v0 := .slice (some ⟨b, 0, none⟩) L.length c) (v1 := .func (.func 107) #[] #[pt cb 0]) (h := h) (h1 := h'.set b (.row (cellsP (F ++ List.replicate G.length (0, 0))).flatten 83 true)) (v := v8) (by
      unfold f106
      rw [c115, asI_int, show AM.eq (i0 : Int) (-1) = false by simp, ifB_false, hadd]
      refine (lp_eq hl).trans ?_
      rw [onE_exit, if_pos rfl, show AM.gv [iv F.length, w] 0 = iv F.length from rfl, hsl, clr_pairs hrow' (by omega)]
      exact e19 _) hv8.notR
    refine ⟨v8, h9, e9, (kp.set _).sm m9, ?_⟩
    have := hv8.ext m9.ext
    rw [← List.map_take, Int.toNat_natCast, List.take_left, hF] at this
    exact this
  · have c115 := fun (K : Value → H → Option (Value × H)) => calls_eq (K := K) (xs := [v, .func (.func 107) #[] #[pt cb 0]]) e116
    refine ⟨v, h, y106 (k := 0) ?_, .refl _ _, ?_⟩
    · unfold f106
      rw [c115, asI_int]
      rfl
    · rw [List.filter_eq_self.2 fun x hx => by rw [hall x hx]; rfl]
      exact hs

/-- The program's bridges. -/
theorem s81 {tv : Value} {g : List Nat} {h : H} (hg : GrB g) (hs : SlR h 3 1 tv (cellsN g)) :
    ∃ v' h', rn 81 #[tv] h = some (v', h') ∧ Exw h h' ∧ SlR h' 83 2 v' (cellsP (bridgesP g)) := by
  have hlen := hg.len
  have hcells : tv.cells.toList = [tv] := by obtain ⟨x, y, z, hz⟩ := hs.isSl; rw [hz]; rfl
  have x1 := Ext.new h (.row [tv] 72 true)
  have hb1 : (h.new (.row [tv] 72 true)).blk h.nx = some (.row [tv] 72 true) := blk_new_self _ _
  obtain ⟨ev, h2, e77, x2, hap⟩ := s77 hg (hs.ext x1)
  rw [nx_new] at hap
  have c77 := fun (K : Value → H → Option (Value × H)) => calls_eq (K := K) (xs := [tv]) e77
  have hev : ∀ b, blkOf ev = some b → h.nx < b := fun b hb => by have := (hap.blkOf hb).1; omega
  have hlt : h.nx < h2.nx := by have := x2.nx; rw [nx_new] at this; omega
  have hq : ∀ g', Kp (blkOf ev) h2 g' → ∀ e ∈ edgesP g, rn 107 #[.agg #[iv e.1, iv e.2], pt h.nx 0] g' = some (.bool (roundQ g e.1 e.2), g') := by
    intro g' kp e he
    obtain ⟨hlt1, hlt2, hadj⟩ := mem_edges.1 he
    refine s107 hg (by omega) hlt2 (by omega) (q := h.nx) (tv := tv) ?_ (by have := kp.nx; omega) ?_
    · rw [kp.blk _ hlt (fun hh => by have := hev _ hh; omega), x2.blk _ (by rw [nx_new]; omega)]
      exact hb1
    · refine hs.lo (lo := h.nx) hs.below ⟨by have := kp.nx; omega, fun b hb => ?_⟩
      rw [kp.blk _ (by omega) (fun hh => by have := hev _ hh; omega), (x1.trans x2.toExt).blk _ hb]
  obtain ⟨v', h3, e106, kp, hs3⟩ := s106 hap (by have := edges_len g hg; omega) hq
  have c102 := fun (K : Value → H → Option (Value × H)) => calls_eq (K := K) (xs := [ev, .func (.func 107) #[] #[pt h.nx 0]]) e106
  have x3 : Ext h h3 := ⟨by have := kp.nx; omega, fun b hb => by rw [kp.blk _ (by omega) (fun hh => by have := hev _ hh; omega), (x1.trans x2.toExt).blk _ hb]⟩
  obtain ⟨h4, e4, m4, w4⟩ := x81 (k := 0) (v0 := tv) (h := h) (h1 := h3) (v := v') (by
    unfold f81
    rw [bx_eq, hcells, nx_eq, d72, cell_of hb1, show ([tv] : List Value)[0]? = some tv from rfl, Option.bind_some, c77, c102]) hs3.notR
  exact ⟨v', h4, e4, w4 x3, hs3.ext m4.ext⟩

end Go.AM

end

section

/- The staged forms of functions 10, 37, 52, 83, 90, 41, 21, 53, and what calls of these answer. -/
namespace Go.AM
open Go.Proofs
noncomputable def f10 (rec : Rec) (_k : Nat) (v0 : Value) (h0 : H) : Option (Value × H) :=
  calls rec h0 36 [v0] fun v1 h1 =>
  ext v1 0 fun v2 =>
  ext v1 1 fun v3 =>
  asB v3 fun q0 =>
  ifB (not q0) (
    some ((.tuple #[(.slice none 0 0), (.int .i64 2)]), h1)) (
    calls rec h1 37 [v2] fun v4 h2 =>
    some ((.tuple #[v4, (.int .i64 0)]), h2))

theorem e10 (rec : Rec) (k : Nat) (v0 : Value) (h : H) : bodyT Tryd.prog E0 SC (XC Tryd.prog rec k) 10 (Value × H) [.opq v0] h (fun v h => some (v, h)) = f10 rec k v0 h := by kernel_rfl

theorem t10 {k : Nat} {v0 : Value} {h h1 : H} {v : Value} (hh : f10 rn k v0 h = some (v, h1)) : rn 10 #[v0] h = some (v, trunc Tryd.prog h h1 v) :=
  run_of_bodyT (args := [.opq v0]) rfl ((e10 _ _ _ _).trans hh)

theorem x10 {k : Nat} {v0 : Value} {h h1 : H} {v : Value} (hh : f10 rn k v0 h = some (v, h1)) (hp : plainO v = false) : ∃ h2, rn 10 #[v0] h = some (v, h2) ∧ Sm h1 h2 ∧ (Ext h h1 → Exw h h2) := trunc_cell hp (t10 hh)

noncomputable def f37_l1 (rec : Rec) (_k : Nat) (v0 : Value) (ws0 : List Value) (h1 : H) : Option (Ex × List Value × H) :=
  calls rec h1 43 [v0] fun v1 h2 =>
  asI .i64 v1 fun n0 =>
  asI .i64 (gv ws0 1) fun n1 =>
  ifB (le n1 n0) (
    calls rec h2 55 [gv ws0 1] fun v2 h3 =>
    asI .i64 v2 fun n2 =>
    ifB (eq n2 1) (
      asI .i64 (gv ws0 1) fun n3 =>
      calls rec h3 79 [(.int .u64 (wr .u64 n3))] fun v3 h4 =>
      asI .i64 v3 fun n4 =>
      six v0 n4 1 fun b0 b1 =>
      ld Tryd.prog h4 3 b0 b1 fun v4 =>
      asI .i64 v4 fun n5 =>
      ifB (eq n5 0) (
        bls Tryd.prog h4 22 1 [(0, gv ws0 1)] fun v5 h5 =>
        app Tryd.prog h5 22 22 (gv ws0 0) v5 fun v6 h6 =>
        asI .i64 (gv ws0 1) fun n6 =>
        out .normal [v6, (.int .i64 (add .i64 n6 1))] h6) (
        calls rec h4 55 [gv ws0 1] fun v7 h7 =>
        asI .i64 v7 fun n7 =>
        ifB (lt 1 n7) (
          calls rec h7 44 [v0, gv ws0 1] fun v8 h8 =>
          asB v8 fun q0 =>
          ifB q0 (
            calls rec h8 42 [v0, gv ws0 1] fun v9 h9 =>
            asI .i64 v9 fun n8 =>
            ifB (eq n8 0) (
              bls Tryd.prog h9 22 1 [(0, gv ws0 1)] fun v10 h10 =>
              app Tryd.prog h10 22 22 (gv ws0 0) v10 fun v11 h11 =>
              asI .i64 (gv ws0 1) fun n9 =>
              out .normal [v11, (.int .i64 (add .i64 n9 1))] h11) (
              asI .i64 (gv ws0 1) fun n10 =>
              out .normal [gv ws0 0, (.int .i64 (add .i64 n10 1))] h9)) (
            asI .i64 (gv ws0 1) fun n11 =>
            out .normal [gv ws0 0, (.int .i64 (add .i64 n11 1))] h8)) (
          asI .i64 (gv ws0 1) fun n12 =>
          out .normal [gv ws0 0, (.int .i64 (add .i64 n12 1))] h7))) (
      calls rec h3 55 [gv ws0 1] fun v12 h12 =>
      asI .i64 v12 fun n13 =>
      ifB (lt 1 n13) (
        calls rec h12 44 [v0, gv ws0 1] fun v13 h13 =>
        asB v13 fun q1 =>
        ifB q1 (
          calls rec h13 42 [v0, gv ws0 1] fun v14 h14 =>
          asI .i64 v14 fun n14 =>
          ifB (eq n14 0) (
            bls Tryd.prog h14 22 1 [(0, gv ws0 1)] fun v15 h15 =>
            app Tryd.prog h15 22 22 (gv ws0 0) v15 fun v16 h16 =>
            asI .i64 (gv ws0 1) fun n15 =>
            out .normal [v16, (.int .i64 (add .i64 n15 1))] h16) (
            asI .i64 (gv ws0 1) fun n16 =>
            out .normal [gv ws0 0, (.int .i64 (add .i64 n16 1))] h14)) (
          asI .i64 (gv ws0 1) fun n17 =>
          out .normal [gv ws0 0, (.int .i64 (add .i64 n17 1))] h13)) (
        asI .i64 (gv ws0 1) fun n18 =>
        out .normal [gv ws0 0, (.int .i64 (add .i64 n18 1))] h12))) (
    out (.exit 0) [gv ws0 0, gv ws0 1] h2)

noncomputable def f37_l2 (rec : Rec) (_k : Nat) (ws1 : List Value) (n19 : Int) (ws2 : List Value) (h18 : H) : Option (Ex × List Value × H) :=
  asI .i64 (gv ws2 1) fun n20 =>
  ifB (lt n20 n19) (
    asK (gv ws2 1) fun n21 =>
    six (gv ws1 0) n21 1 fun b2 b3 =>
    ld Tryd.prog h18 3 b2 b3 fun v17 =>
    asI .i64 v17 fun n22 =>
    al h18 3 [(.int .i64 0)] fun h19 =>
    st Tryd.prog h19 3 (nx h18) 0 (.int .i64 n22) fun h20 =>
    calls rec h20 52 [gv ws1 0, (.func (.func 83) #[] #[(pt (nx h18) 0)])] fun v18 h21 =>
    asB v18 fun q2 =>
    ifB (not q2) (
      ld Tryd.prog h21 3 (nx h18) 0 fun v19 =>
      asI .i64 v19 fun n23 =>
      bls Tryd.prog h21 22 1 [(0, (.int .i64 n23))] fun v20 h22 =>
      app Tryd.prog h22 22 22 (gv ws2 0) v20 fun v21 h23 =>
      asI .i64 (gv ws2 1) fun n24 =>
      out .normal [v21, (.int .i64 (add .i64 n24 1))] h23) (
      asI .i64 (gv ws2 1) fun n25 =>
      out .normal [gv ws2 0, (.int .i64 (add .i64 n25 1))] h21)) (
    out (.exit 2) [gv ws2 0, gv ws2 1] h18)

noncomputable def f37 (rec : Rec) (k : Nat) (v0 : Value) (h0 : H) : Option (Value × H) :=
  lp k (f37_l1 rec k v0) [(.slice none 0 0), (.int .i64 1)] h0 fun e0 ws1 h17 =>
  onE e0 0 (
    len (gv ws1 0) fun n19 =>
    lp k (f37_l2 rec k ws1 n19) [(.slice none 0 0), (.int .i64 0)] h17 fun e1 ws3 h24 =>
    onE e1 2 (
      some (gv ws3 0, h24)) (
      none)) (
    none)

theorem e37 (rec : Rec) (k : Nat) (v0 : Value) (h : H) : bodyT Tryd.prog E0 SC (XC Tryd.prog rec k) 37 (Value × H) [.opq v0] h (fun v h => some (v, h)) = f37 rec k v0 h := by kernel_rfl

theorem t37 {k : Nat} {v0 : Value} {h h1 : H} {v : Value} (hh : f37 rn k v0 h = some (v, h1)) : rn 37 #[v0] h = some (v, trunc Tryd.prog h h1 v) :=
  run_of_bodyT (args := [.opq v0]) rfl ((e37 _ _ _ _).trans hh)

theorem x37 {k : Nat} {v0 : Value} {h h1 : H} {v : Value} (hh : f37 rn k v0 h = some (v, h1)) (hp : plainO v = false) : ∃ h2, rn 37 #[v0] h = some (v, h2) ∧ Sm h1 h2 ∧ (Ext h h1 → Exw h h2) := trunc_cell hp (t37 hh)

noncomputable def f52 (rec : Rec) (_k : Nat) (v0 : Value) (v1 : Value) (h0 : H) : Option (Value × H) :=
  calls rec h0 90 [v0, v1] fun v2 h1 =>
  asI .i64 v2 fun n0 =>
  some ((.bool (le 0 n0)), h1)

theorem e52 (rec : Rec) (k : Nat) (v0 : Value) (v1 : Value) (h : H) : bodyT Tryd.prog E0 SC (XC Tryd.prog rec k) 52 (Value × H) [.opq v0, .opq v1] h (fun v h => some (v, h)) = f52 rec k v0 v1 h := by kernel_rfl

theorem t52 {k : Nat} {v0 : Value} {v1 : Value} {h h1 : H} {v : Value} (hh : f52 rn k v0 v1 h = some (v, h1)) : rn 52 #[v0, v1] h = some (v, trunc Tryd.prog h h1 v) :=
  run_of_bodyT (args := [.opq v0, .opq v1]) rfl ((e52 _ _ _ _ _).trans hh)

theorem p52 {k : Nat} {v0 : Value} {v1 : Value} {h h1 : H} {v : Value} (hh : f52 rn k v0 v1 h = some (v, h1)) (hp : plainO v = true) (x : Ext h h1) : rn 52 #[v0, v1] h = some (v, h) := by rw [t52 hh, trunc_pure hp x]

noncomputable def f83 (_rec : Rec) (_k : Nat) (n0 : Int) (v0 : Value) (h0 : H) : Option (Value × H) :=
  asP v0 fun b0 b1 =>
  ld Tryd.prog h0 3 b0 b1 fun v1 =>
  asI .i64 v1 fun n1 =>
  ifB (not (eq n0 n1)) (
    asP v0 fun b2 b3 =>
    ld Tryd.prog h0 3 b2 b3 fun v2 =>
    asI .i64 v2 fun n2 =>
    some ((.bool (eq (andNot .i64 n2 n0) 0)), h0)) (
    some ((.bool false), h0))

theorem e83 (rec : Rec) (k : Nat) (n0 : Int) (v0 : Value) (h : H) : bodyT Tryd.prog E0 SC (XC Tryd.prog rec k) 83 (Value × H) [.int .i64 n0, .opq v0] h (fun v h => some (v, h)) = f83 rec k n0 v0 h := by kernel_rfl

theorem t83 {k : Nat} {n0 : Int} {v0 : Value} {h h1 : H} {v : Value} (hh : f83 rn k n0 v0 h = some (v, h1)) : rn 83 #[.int .i64 n0, v0] h = some (v, trunc Tryd.prog h h1 v) :=
  run_of_bodyT (args := [.int .i64 n0, .opq v0]) rfl ((e83 _ _ _ _ _).trans hh)

theorem p83 {k : Nat} {n0 : Int} {v0 : Value} {h h1 : H} {v : Value} (hh : f83 rn k n0 v0 h = some (v, h1)) (hp : plainO v = true) (x : Ext h h1) : rn 83 #[.int .i64 n0, v0] h = some (v, h) := by rw [t83 hh, trunc_pure hp x]

noncomputable def f90_l1 (rec : Rec) (_k : Nat) (v0 : Value) (v1 : Value) (n0 : Int) (ws0 : List Value) (h1 : H) : Option (Ex × List Value × H) :=
  asI .i64 (gv ws0 1) fun n1 =>
  ifB (lt n1 n0) (
    asK (gv ws0 1) fun n2 =>
    six v0 n2 1 fun b0 b1 =>
    ld Tryd.prog h1 3 b0 b1 fun v2 =>
    asI .i64 v2 fun n3 =>
    callsV rec h1 v1 [(.int .i64 n3)] fun v3 h2 =>
    asB v3 fun q0 =>
    ifB q0 (
      out .ret [gv ws0 1, gv ws0 1] h2) (
      asI .i64 (gv ws0 1) fun n4 =>
      out .normal [gv ws0 0, (.int .i64 (add .i64 n4 1))] h2)) (
    out (.exit 0) [gv ws0 0, gv ws0 1] h1)

noncomputable def f90 (rec : Rec) (k : Nat) (v0 : Value) (v1 : Value) (h0 : H) : Option (Value × H) :=
  len v0 fun n0 =>
  lp k (f90_l1 rec k v0 v1 n0) [(.int .i64 0), (.int .i64 0)] h0 fun e0 ws1 h3 =>
  onE e0 0 (
    some ((.int .i64 (-1)), h3)) (
    onR e0 (
      some (gv ws1 0, h3)))

theorem e90 (rec : Rec) (k : Nat) (v0 : Value) (v1 : Value) (h : H) : bodyT Tryd.prog E0 SC (XC Tryd.prog rec k) 90 (Value × H) [.opq v0, .opq v1] h (fun v h => some (v, h)) = f90 rec k v0 v1 h := by kernel_rfl

theorem t90 {k : Nat} {v0 : Value} {v1 : Value} {h h1 : H} {v : Value} (hh : f90 rn k v0 v1 h = some (v, h1)) : rn 90 #[v0, v1] h = some (v, trunc Tryd.prog h h1 v) :=
  run_of_bodyT (args := [.opq v0, .opq v1]) rfl ((e90 _ _ _ _ _).trans hh)

theorem p90 {k : Nat} {v0 : Value} {v1 : Value} {h h1 : H} {v : Value} (hh : f90 rn k v0 v1 h = some (v, h1)) (hp : plainO v = true) (x : Ext h h1) : rn 90 #[v0, v1] h = some (v, h) := by rw [t90 hh, trunc_pure hp x]

noncomputable def f21 (rec : Rec) (_k : Nat) (v0 : Value) (h0 : H) : Option (Value × H) :=
  calls rec h0 36 [v0] fun v1 h1 =>
  ext v1 0 fun v2 =>
  ext v1 1 fun v3 =>
  asB v3 fun q0 =>
  al h1 72 [(.slice none 0 0)] fun h2 =>
  st Tryd.prog h2 72 (nx h1) 0 v2 fun h3 =>
  ifB (not q0) (
    some ((.tuple #[(.bool false), (.int .i64 2)]), h3)) (
    ld Tryd.prog h3 72 (nx h1) 0 fun v4 =>
    calls rec h3 37 [v4] fun v5 h4 =>
    calls rec h4 52 [v5, (.func (.func 53) #[] #[(pt (nx h1) 0)])] fun v6 h5 =>
    asB v6 fun q1 =>
    some ((.tuple #[(.bool (not q1)), (.int .i64 0)]), h5))

theorem e21 (rec : Rec) (k : Nat) (v0 : Value) (h : H) : bodyT Tryd.prog E0 SC (XC Tryd.prog rec k) 21 (Value × H) [.opq v0] h (fun v h => some (v, h)) = f21 rec k v0 h := by kernel_rfl

theorem t21 {k : Nat} {v0 : Value} {h h1 : H} {v : Value} (hh : f21 rn k v0 h = some (v, h1)) : rn 21 #[v0] h = some (v, trunc Tryd.prog h h1 v) :=
  run_of_bodyT (args := [.opq v0]) rfl ((e21 _ _ _ _).trans hh)

theorem p21 {k : Nat} {v0 : Value} {h h1 : H} {v : Value} (hh : f21 rn k v0 h = some (v, h1)) (hp : plainO v = true) (x : Ext h h1) : rn 21 #[v0] h = some (v, h) := by rw [t21 hh, trunc_pure hp x]

end Go.AM

end
