/- Parts of the proof, put together: what the functions of the program answer, and plain laws. -/
import Derived.Test.YthmfjfblndophaaAmSim
import Derived.Test.YthmfjfblndophaaProg
import Derived.KernelRfl

section

/- The seat's environment, what its types are, and calls in the end. -/
namespace Go.AM
open Go.Proofs
/-- No package-level variables; the calls that are made by themselves. -/
def E0 : Env := ⟨0, fun _ => none, fun f => f == 22 || f == 1000033⟩

noncomputable abbrev rn : Rec := run Try.prog E0

variable {R : Type} {h : H} {b o : Nat} {v : Value}
theorem ag0 : aggT Try.prog 0 = some false := by kernel_rfl

theorem sz0 : size? Try.prog 0 = some 1 := by kernel_rfl

theorem d0 {K : Value → Option R} : ld Try.prog h 0 b o K = (h.cell b o).bind K := ld_scS ag0

theorem w0 {K : H → Option R} : st Try.prog h 0 b o v K = (wrc 1 h b o v).bind K := st_S sz0

theorem ag1 : aggT Try.prog 1 = some false := by kernel_rfl

theorem sz1 : size? Try.prog 1 = some 1 := by kernel_rfl

theorem d1 {K : Value → Option R} : ld Try.prog h 1 b o K = (h.cell b o).bind K := ld_scS ag1

theorem w1 {K : H → Option R} : st Try.prog h 1 b o v K = (wrc 1 h b o v).bind K := st_S sz1

theorem sz2 : size? Try.prog 2 = some 1 := by kernel_rfl

theorem w2 {K : H → Option R} : st Try.prog h 2 b o v K = (wrc 1 h b o v).bind K := st_S sz2

theorem ag3 : aggT Try.prog 3 = some false := by kernel_rfl

theorem sz3 : size? Try.prog 3 = some 1 := by kernel_rfl

theorem d3 {K : Value → Option R} : ld Try.prog h 3 b o K = (h.cell b o).bind K := ld_scS ag3

theorem w3 {K : H → Option R} : st Try.prog h 3 b o v K = (wrc 1 h b o v).bind K := st_S sz3

theorem sz7 : size? Try.prog 7 = some 4 := by kernel_rfl

theorem w7 {K : H → Option R} : st Try.prog h 7 b o v K = (wrc 4 h b o v).bind K := st_S sz7

theorem sz8 : size? Try.prog 8 = some 4 := by kernel_rfl

theorem w8 {K : H → Option R} : st Try.prog h 8 b o v K = (wrc 4 h b o v).bind K := st_S sz8

theorem sz10 : size? Try.prog 10 = some 1 := by kernel_rfl

theorem w10 {K : H → Option R} : st Try.prog h 10 b o v K = (wrc 1 h b o v).bind K := st_S sz10

theorem sz16 : size? Try.prog 16 = some 1 := by kernel_rfl

theorem w16 {K : H → Option R} : st Try.prog h 16 b o v K = (wrc 1 h b o v).bind K := st_S sz16

theorem ag22 : aggT Try.prog 22 = some false := by kernel_rfl

theorem sz22 : size? Try.prog 22 = some 1 := by kernel_rfl

theorem d22 {K : Value → Option R} : ld Try.prog h 22 b o K = (h.cell b o).bind K := ld_scS ag22

theorem w22 {K : H → Option R} : st Try.prog h 22 b o v K = (wrc 1 h b o v).bind K := st_S sz22

theorem sz23 : size? Try.prog 23 = some 2 := by kernel_rfl

theorem w23 {K : H → Option R} : st Try.prog h 23 b o v K = (wrc 2 h b o v).bind K := st_S sz23

theorem ag24 : aggT Try.prog 24 = some true := by kernel_rfl

theorem sz24 : size? Try.prog 24 = some 2 := by kernel_rfl

theorem d24 {K : Value → Option R} : ld Try.prog h 24 b o K = (h.rd b o 2).bind fun l => K (.agg l.toArray) := ld_agS ag24 sz24

theorem w24 {K : H → Option R} : st Try.prog h 24 b o v K = (wrc 2 h b o v).bind K := st_S sz24

theorem ag25 : aggT Try.prog 25 = some false := by kernel_rfl

theorem sz25 : size? Try.prog 25 = some 1 := by kernel_rfl

theorem d25 {K : Value → Option R} : ld Try.prog h 25 b o K = (h.cell b o).bind K := ld_scS ag25

theorem w25 {K : H → Option R} : st Try.prog h 25 b o v K = (wrc 1 h b o v).bind K := st_S sz25

theorem ag29 : aggT Try.prog 29 = some false := by kernel_rfl

theorem sz29 : size? Try.prog 29 = some 1 := by kernel_rfl

theorem d29 {K : Value → Option R} : ld Try.prog h 29 b o K = (h.cell b o).bind K := ld_scS ag29

theorem w29 {K : H → Option R} : st Try.prog h 29 b o v K = (wrc 1 h b o v).bind K := st_S sz29

theorem ag31 : aggT Try.prog 31 = some true := by kernel_rfl

theorem sz31 : size? Try.prog 31 = some 2 := by kernel_rfl

theorem d31 {K : Value → Option R} : ld Try.prog h 31 b o K = (h.rd b o 2).bind fun l => K (.agg l.toArray) := ld_agS ag31 sz31

theorem w31 {K : H → Option R} : st Try.prog h 31 b o v K = (wrc 2 h b o v).bind K := st_S sz31

theorem ag56 : aggT Try.prog 56 = some true := by kernel_rfl

theorem sz56 : size? Try.prog 56 = some 3 := by kernel_rfl

theorem d56 {K : Value → Option R} : ld Try.prog h 56 b o K = (h.rd b o 3).bind fun l => K (.agg l.toArray) := ld_agS ag56 sz56

theorem w56 {K : H → Option R} : st Try.prog h 56 b o v K = (wrc 3 h b o v).bind K := st_S sz56

theorem ag59 : aggT Try.prog 59 = some true := by kernel_rfl

theorem sz59 : size? Try.prog 59 = some 3 := by kernel_rfl

theorem d59 {K : Value → Option R} : ld Try.prog h 59 b o K = (h.rd b o 3).bind fun l => K (.agg l.toArray) := ld_agS ag59 sz59

theorem ag61 : aggT Try.prog 61 = some false := by kernel_rfl

theorem d61 {K : Value → Option R} : ld Try.prog h 61 b o K = (h.cell b o).bind K := ld_scS ag61

theorem ag89 : aggT Try.prog 89 = some false := by kernel_rfl

theorem d89 {K : Value → Option R} : ld Try.prog h 89 b o K = (h.cell b o).bind K := ld_scS ag89

theorem ag121 : aggT Try.prog 121 = some false := by kernel_rfl

theorem sz121 : size? Try.prog 121 = some 1 := by kernel_rfl

theorem d121 {K : Value → Option R} : ld Try.prog h 121 b o K = (h.cell b o).bind K := ld_scS ag121

theorem w121 {K : H → Option R} : st Try.prog h 121 b o v K = (wrc 1 h b o v).bind K := st_S sz121

end Go.AM

end

section

/- The staged forms of functions 3, 6, 11, 14, 17, 18, 19, 20, 21, 23, 24, 25, 26, 27, 28, 29, 34, 35, 36, 37, 38, 39, 40, 41, 42, 43, 45, and what calls of these answer. -/
namespace Go.AM
open Go.Proofs
noncomputable def f3 (rec : Rec) (_k : Nat) (v0 : Value) (n0 : Int) (n1 : Int) (h0 : H) : Option (Value × H) :=
  bx h0 24 v0 fun h1 =>
  ld Try.prog h1 24 (nx h0) 0 fun v1 =>
  calls rec h1 18 [v1] fun v2 h2 =>
  calls rec h2 17 [v2, (.int .i64 n0), (.int .i64 n1)] fun v3 h3 =>
  ext v3 0 fun v4 =>
  ext v3 1 fun v5 =>
  asI .i64 v5 fun n2 =>
  ld Try.prog h3 24 (nx h0) 0 fun v6 =>
  calls rec h3 18 [v6] fun v7 h4 =>
  calls rec h4 19 [v7, (.int .i64 n0), (.int .i64 n1)] fun v8 h5 =>
  ext v8 0 fun v9 =>
  ext v8 1 fun v10 =>
  asI .i64 v10 fun n3 =>
  ld Try.prog h5 24 (nx h0) 0 fun v11 =>
  calls rec h5 18 [v11] fun v12 h6 =>
  calls rec h6 20 [v12, (.int .i64 n0), (.int .i64 n1)] fun v13 h7 =>
  ext v13 0 fun v14 =>
  ext v13 1 fun v15 =>
  asI .i64 v15 fun n4 =>
  ld Try.prog h7 24 (nx h0) 0 fun v16 =>
  calls rec h7 21 [v16, (.int .i64 n0), (.int .i64 n1)] fun v17 h8 =>
  asB v17 fun q0 =>
  ifB (not q0) (
    len v4 fun n5 =>
    len v9 fun n6 =>
    len v14 fun n7 =>
    ifB (eq (add .i64 (add .i64 n5 n6) n7) 0) (
      ifB (eq n2 2) (
        ifB (eq n3 2) (
          ifB (eq n4 2) (
            calls rec h8 22 [] fun v18 h9 =>
            asB v18 fun q1 =>
            some ((.bool q1), h9)) (
            some ((.bool false), h8))) (
          some ((.bool false), h8))) (
        some ((.bool false), h8))) (
      some ((.bool false), h8))) (
    ld Try.prog h8 24 (nx h0) 0 fun v19 =>
    calls rec h8 23 [v19, (.int .i64 n0), (.int .i64 n1)] fun v20 h10 =>
    ext v20 0 fun v21 =>
    ext v20 1 fun v22 =>
    asI .i64 v22 fun n8 =>
    ld Try.prog h10 24 (nx h0) 0 fun v23 =>
    calls rec h10 24 [v23, (.int .i64 n0), (.int .i64 n1)] fun v24 h11 =>
    ext v24 0 fun v25 =>
    ext v24 1 fun v26 =>
    asI .i64 v26 fun n9 =>
    ld Try.prog h11 24 (nx h0) 0 fun v27 =>
    calls rec h11 25 [v27, (.int .i64 n0), (.int .i64 n1)] fun v28 h12 =>
    ext v28 0 fun v29 =>
    ext v28 1 fun v30 =>
    asI .i64 v30 fun n10 =>
    calls rec h12 26 [v4, v21] fun v31 h13 =>
    asB v31 fun q2 =>
    ifB q2 (
      calls rec h13 26 [v9, v25] fun v32 h14 =>
      asB v32 fun q3 =>
      ifB q3 (
        calls rec h14 26 [v14, v29] fun v33 h15 =>
        asB v33 fun q4 =>
        ifB q4 (
          ifB (eq n2 n8) (
            ifB (eq n3 n9) (
              ifB (eq n4 n10) (
                calls rec h15 22 [] fun v34 h16 =>
                asB v34 fun q5 =>
                some ((.bool q5), h16)) (
                some ((.bool false), h15))) (
              some ((.bool false), h15))) (
            some ((.bool false), h15))) (
          some ((.bool false), h15))) (
        some ((.bool false), h14))) (
      some ((.bool false), h13)))

theorem e3 (rec : Rec) (k : Nat) (v0 : Value) (n0 : Int) (n1 : Int) (h : H) : bodyT Try.prog E0 SC (XC Try.prog rec k) 3 (Value × H) [.opq v0, .int .i64 n0, .int .i64 n1] h (fun v h => some (v, h)) = f3 rec k v0 n0 n1 h := by kernel_rfl

theorem t3 {k : Nat} {v0 : Value} {n0 : Int} {n1 : Int} {h h1 : H} {v : Value} (hh : f3 rn k v0 n0 n1 h = some (v, h1)) : rn 3 #[v0, .int .i64 n0, .int .i64 n1] h = some (v, trunc Try.prog h h1 v) :=
  run_of_bodyT (args := [.opq v0, .int .i64 n0, .int .i64 n1]) rfl ((e3 _ _ _ _ _ _).trans hh)

theorem p3 {k : Nat} {v0 : Value} {n0 : Int} {n1 : Int} {h h1 : H} {v : Value} (hh : f3 rn k v0 n0 n1 h = some (v, h1)) (hp : plainO v = true) (x : Ext h h1) : rn 3 #[v0, .int .i64 n0, .int .i64 n1] h = some (v, h) := by rw [t3 hh, trunc_pure hp x]

theorem x3 {k : Nat} {v0 : Value} {n0 : Int} {n1 : Int} {h h1 : H} {v : Value} (hh : f3 rn k v0 n0 n1 h = some (v, h1)) (hp : plainO v = false) : rn 3 #[v0, .int .i64 n0, .int .i64 n1] h = some (v, h1) := by rw [t3 hh, trunc_not hp]

noncomputable def f6 (rec : Rec) (_k : Nat) (v0 : Value) (n0 : Int) (h0 : H) : Option (Value × H) :=
  bx h0 24 v0 fun h1 =>
  ld Try.prog h1 24 (nx h0) 0 fun v1 =>
  calls rec h1 18 [v1] fun v2 h2 =>
  calls rec h2 37 [v2] fun v3 h3 =>
  ext v3 0 fun v4 =>
  ext v3 1 fun v5 =>
  asI .i64 v5 fun n1 =>
  ld Try.prog h3 24 (nx h0) 0 fun v6 =>
  calls rec h3 18 [v6] fun v7 h4 =>
  calls rec h4 38 [v7, (.int .i64 n0)] fun v8 h5 =>
  ext v8 0 fun v9 =>
  ext v8 1 fun v10 =>
  asI .i64 v10 fun n2 =>
  ld Try.prog h5 24 (nx h0) 0 fun v11 =>
  calls rec h5 18 [v11] fun v12 h6 =>
  calls rec h6 39 [v12] fun v13 h7 =>
  ext v13 0 fun v14 =>
  ext v13 1 fun v15 =>
  asI .i64 v15 fun n3 =>
  ld Try.prog h7 24 (nx h0) 0 fun v16 =>
  calls rec h7 35 [v16] fun v17 h8 =>
  asB v17 fun q0 =>
  ifB (not q0) (
    len v4 fun n4 =>
    len v9 fun n5 =>
    len v14 fun n6 =>
    ifB (eq (add .i64 (add .i64 n4 n5) n6) 0) (
      ifB (eq n1 2) (
        ifB (eq n2 2) (
          ifB (eq n3 2) (
            calls rec h8 22 [] fun v18 h9 =>
            asB v18 fun q1 =>
            some ((.bool q1), h9)) (
            some ((.bool false), h8))) (
          some ((.bool false), h8))) (
        some ((.bool false), h8))) (
      some ((.bool false), h8))) (
    ld Try.prog h8 24 (nx h0) 0 fun v19 =>
    calls rec h8 40 [v19] fun v20 h10 =>
    calls rec h10 26 [v4, v20] fun v21 h11 =>
    asB v21 fun q2 =>
    ifB (not q2) (
      some ((.bool false), h11)) (
      ifB (not (eq n1 0)) (
        some ((.bool false), h11)) (
        ld Try.prog h11 24 (nx h0) 0 fun v22 =>
        calls rec h11 41 [v22] fun v23 h12 =>
        calls rec h12 26 [v14, v23] fun v24 h13 =>
        asB v24 fun q3 =>
        ifB (not q3) (
          some ((.bool false), h13)) (
          ifB (not (eq n3 0)) (
            some ((.bool false), h13)) (
            calls rec h13 22 [] fun v25 h14 =>
            asB v25 fun q4 =>
            ifB (not q4) (
              some ((.bool false), h14)) (
              ld Try.prog h14 24 (nx h0) 0 fun v26 =>
              calls rec h14 42 [v26, (.int .i64 n0)] fun v27 h15 =>
              asB v27 fun q5 =>
              ifB (not q5) (
                len v9 fun n7 =>
                ifB (eq n7 0) (
                  some ((.bool (eq n2 2)), h15)) (
                  some ((.bool false), h15))) (
                ld Try.prog h15 24 (nx h0) 0 fun v28 =>
                calls rec h15 43 [v28, (.int .i64 n0)] fun v29 h16 =>
                calls rec h16 26 [v9, v29] fun v30 h17 =>
                asB v30 fun q6 =>
                ifB q6 (
                  some ((.bool (eq n2 0)), h17)) (
                  some ((.bool false), h17)))))))))

theorem e6 (rec : Rec) (k : Nat) (v0 : Value) (n0 : Int) (h : H) : bodyT Try.prog E0 SC (XC Try.prog rec k) 6 (Value × H) [.opq v0, .int .i64 n0] h (fun v h => some (v, h)) = f6 rec k v0 n0 h := by kernel_rfl

theorem t6 {k : Nat} {v0 : Value} {n0 : Int} {h h1 : H} {v : Value} (hh : f6 rn k v0 n0 h = some (v, h1)) : rn 6 #[v0, .int .i64 n0] h = some (v, trunc Try.prog h h1 v) :=
  run_of_bodyT (args := [.opq v0, .int .i64 n0]) rfl ((e6 _ _ _ _ _).trans hh)

theorem x6 {k : Nat} {v0 : Value} {n0 : Int} {h h1 : H} {v : Value} (hh : f6 rn k v0 n0 h = some (v, h1)) (hp : plainO v = false) : rn 6 #[v0, .int .i64 n0] h = some (v, h1) := by rw [t6 hh, trunc_not hp]

noncomputable def f11 (rec : Rec) (_k : Nat) (v0 : Value) (h0 : H) : Option (Value × H) :=
  bx h0 24 v0 fun h1 =>
  ld Try.prog h1 24 (nx h0) 0 fun v1 =>
  calls rec h1 18 [v1] fun v2 h2 =>
  calls rec h2 57 [v2] fun v3 h3 =>
  ext v3 0 fun v4 =>
  ext v3 1 fun v5 =>
  asI .i64 v5 fun n0 =>
  al h3 31 [(.int .i64 0), (.slice none 0 0)] fun h4 =>
  st Try.prog h4 31 (nx h3) 0 v4 fun h5 =>
  ld Try.prog h5 24 (nx h0) 0 fun v6 =>
  calls rec h5 35 [v6] fun v7 h6 =>
  asB v7 fun q0 =>
  ifB (not q0) (
    ld Try.prog h6 31 (nx h3) 0 fun v8 =>
    calls rec h6 32 [v8] fun v9 h7 =>
    asB v9 fun q1 =>
    ifB q1 (
      ifB (eq n0 2) (
        calls rec h7 22 [] fun v10 h8 =>
        asB v10 fun q2 =>
        some ((.bool q2), h8)) (
        some ((.bool false), h7))) (
      some ((.bool false), h7))) (
    ld Try.prog h6 24 (nx h0) 0 fun v11 =>
    calls rec h6 58 [v11] fun v12 h9 =>
    al h9 24 [(.int .i64 0), (.slice none 0 0)] fun h10 =>
    st Try.prog h10 24 (nx h9) 0 v12 fun h11 =>
    ld Try.prog h11 3 (nx h3) 0 fun v13 =>
    asI .i64 v13 fun n1 =>
    ld Try.prog h11 3 (nx h9) 0 fun v14 =>
    asI .i64 v14 fun n2 =>
    ifB (eq n1 n2) (
      ld Try.prog h11 31 (nx h3) 0 fun v15 =>
      calls rec h11 33 [v15] fun v16 h12 =>
      fld Try.prog 24 v16 1 fun v17 =>
      ld Try.prog h12 22 (nx h9) (off 0 1) fun v18 =>
      ck (freq (nx h9) (nx h11) (same h12 h11)) (
        calls rec h12 59 [v17, v18] fun v19 h13 =>
        asB v19 fun q3 =>
        ifB q3 (
          ifB (eq n0 0) (
            calls rec h13 22 [] fun v20 h14 =>
            asB v20 fun q4 =>
            some ((.bool q4), h14)) (
            some ((.bool false), h13))) (
          some ((.bool false), h13)))) (
      some ((.bool false), h11)))

theorem e11 (rec : Rec) (k : Nat) (v0 : Value) (h : H) : bodyT Try.prog E0 SC (XC Try.prog rec k) 11 (Value × H) [.opq v0] h (fun v h => some (v, h)) = f11 rec k v0 h := by kernel_rfl

theorem t11 {k : Nat} {v0 : Value} {h h1 : H} {v : Value} (hh : f11 rn k v0 h = some (v, h1)) : rn 11 #[v0] h = some (v, trunc Try.prog h h1 v) :=
  run_of_bodyT (args := [.opq v0]) rfl ((e11 _ _ _ _).trans hh)

theorem x11 {k : Nat} {v0 : Value} {h h1 : H} {v : Value} (hh : f11 rn k v0 h = some (v, h1)) (hp : plainO v = false) : rn 11 #[v0] h = some (v, h1) := by rw [t11 hh, trunc_not hp]

noncomputable def f14 (rec : Rec) (_k : Nat) (v0 : Value) (n0 : Int) (h0 : H) : Option (Value × H) :=
  bx h0 24 v0 fun h1 =>
  ld Try.prog h1 24 (nx h0) 0 fun v1 =>
  calls rec h1 18 [v1] fun v2 h2 =>
  calls rec h2 45 [v2, (.int .i64 n0)] fun v3 h3 =>
  ext v3 0 fun v4 =>
  ext v3 1 fun v5 =>
  asI .i64 v5 fun n1 =>
  ld Try.prog h3 24 (nx h0) 0 fun v6 =>
  calls rec h3 18 [v6] fun v7 h4 =>
  calls rec h4 62 [v7, (.int .i64 n0)] fun v8 h5 =>
  ext v8 0 fun v9 =>
  ext v8 1 fun v10 =>
  asI .i64 v10 fun n2 =>
  ld Try.prog h5 24 (nx h0) 0 fun v11 =>
  calls rec h5 35 [v11] fun v12 h6 =>
  asB v12 fun q0 =>
  ifB (not q0) (
    len v4 fun n3 =>
    len v9 fun n4 =>
    ifB (eq (add .i64 n3 n4) 0) (
      ifB (eq n1 2) (
        ifB (eq n2 2) (
          calls rec h6 22 [] fun v13 h7 =>
          asB v13 fun q1 =>
          some ((.bool q1), h7)) (
          some ((.bool false), h6))) (
        some ((.bool false), h6))) (
      some ((.bool false), h6))) (
    ld Try.prog h6 24 (nx h0) 0 fun v14 =>
    calls rec h6 42 [v14, (.int .i64 n0)] fun v15 h8 =>
    asB v15 fun q2 =>
    ifB (not q2) (
      len v4 fun n5 =>
      len v9 fun n6 =>
      ifB (eq (add .i64 n5 n6) 0) (
        ifB (eq n1 2) (
          ifB (eq n2 2) (
            calls rec h8 22 [] fun v16 h9 =>
            asB v16 fun q3 =>
            some ((.bool q3), h9)) (
            some ((.bool false), h8))) (
          some ((.bool false), h8))) (
        some ((.bool false), h8))) (
      ld Try.prog h8 24 (nx h0) 0 fun v17 =>
      calls rec h8 63 [v17, (.int .i64 n0)] fun v18 h10 =>
      calls rec h10 26 [v4, v18] fun v19 h11 =>
      asB v19 fun q4 =>
      ifB q4 (
        ld Try.prog h11 24 (nx h0) 0 fun v20 =>
        calls rec h11 64 [v20, (.int .i64 n0)] fun v21 h12 =>
        calls rec h12 26 [v9, v21] fun v22 h13 =>
        asB v22 fun q5 =>
        ifB q5 (
          ifB (eq n1 0) (
            ifB (eq n2 0) (
              calls rec h13 22 [] fun v23 h14 =>
              asB v23 fun q6 =>
              some ((.bool q6), h14)) (
              some ((.bool false), h13))) (
            some ((.bool false), h13))) (
          some ((.bool false), h13))) (
        some ((.bool false), h11))))

theorem e14 (rec : Rec) (k : Nat) (v0 : Value) (n0 : Int) (h : H) : bodyT Try.prog E0 SC (XC Try.prog rec k) 14 (Value × H) [.opq v0, .int .i64 n0] h (fun v h => some (v, h)) = f14 rec k v0 n0 h := by kernel_rfl

theorem t14 {k : Nat} {v0 : Value} {n0 : Int} {h h1 : H} {v : Value} (hh : f14 rn k v0 n0 h = some (v, h1)) : rn 14 #[v0, .int .i64 n0] h = some (v, trunc Try.prog h h1 v) :=
  run_of_bodyT (args := [.opq v0, .int .i64 n0]) rfl ((e14 _ _ _ _ _).trans hh)

theorem x14 {k : Nat} {v0 : Value} {n0 : Int} {h h1 : H} {v : Value} (hh : f14 rn k v0 n0 h = some (v, h1)) (hp : plainO v = false) : rn 14 #[v0, .int .i64 n0] h = some (v, h1) := by rw [t14 hh, trunc_not hp]

noncomputable def f17 (rec : Rec) (_k : Nat) (v0 : Value) (n0 : Int) (n1 : Int) (h0 : H) : Option (Value × H) :=
  bx h0 31 v0 fun h1 =>
  ld Try.prog h1 31 (nx h0) 0 fun v1 =>
  ld Try.prog h1 31 (nx h0) 0 fun v2 =>
  calls rec h1 65 [v1, (.int .i64 n0), (.int .i64 n1), (.func (.func 66) #[v2] #[])] fun v3 h2 =>
  ext v3 0 fun v4 =>
  ext v3 1 fun v5 =>
  asI .i64 v5 fun n2 =>
  some ((.tuple #[v4, (.int .i64 n2)]), h2)

theorem e17 (rec : Rec) (k : Nat) (v0 : Value) (n0 : Int) (n1 : Int) (h : H) : bodyT Try.prog E0 SC (XC Try.prog rec k) 17 (Value × H) [.opq v0, .int .i64 n0, .int .i64 n1] h (fun v h => some (v, h)) = f17 rec k v0 n0 n1 h := by kernel_rfl

theorem t17 {k : Nat} {v0 : Value} {n0 : Int} {n1 : Int} {h h1 : H} {v : Value} (hh : f17 rn k v0 n0 n1 h = some (v, h1)) : rn 17 #[v0, .int .i64 n0, .int .i64 n1] h = some (v, trunc Try.prog h h1 v) :=
  run_of_bodyT (args := [.opq v0, .int .i64 n0, .int .i64 n1]) rfl ((e17 _ _ _ _ _ _).trans hh)

theorem x17 {k : Nat} {v0 : Value} {n0 : Int} {n1 : Int} {h h1 : H} {v : Value} (hh : f17 rn k v0 n0 n1 h = some (v, h1)) (hp : plainO v = false) : rn 17 #[v0, .int .i64 n0, .int .i64 n1] h = some (v, h1) := by rw [t17 hh, trunc_not hp]

noncomputable def f18_l1 (_rec : Rec) (_k : Nat) (h2 : H) (v3 : Value) (n1 : Int) (ws0 : List Value) (h5 : H) : Option (Ex × List Value × H) :=
  asI .i64 (gv ws0 0) fun n2 =>
  ifB (lt n2 n1) (
    asK (gv ws0 0) fun n3 =>
    six v3 n3 3 fun b0 b1 =>
    ld Try.prog h5 59 b0 b1 fun v4 =>
    al h5 59 [(.int .i64 0), (.int .i64 0), (.int .i64 0)] fun h6 =>
    st Try.prog h6 59 (nx h5) 0 v4 fun h7 =>
    asI .i64 (gv ws0 0) fun n4 =>
    ifB (lt n4 26) (
      ld Try.prog h7 29 (nx h2) (off 0 1) fun v5 =>
      ld Try.prog h7 3 (nx h5) 0 fun v6 =>
      asI .i64 v6 fun n5 =>
      ld Try.prog h7 3 (nx h5) (off 0 1) fun v7 =>
      asI .i64 v7 fun n6 =>
      ld Try.prog h7 3 (nx h5) (off 0 2) fun v8 =>
      asI .i64 v8 fun n7 =>
      bld Try.prog 56 [(0, (.int .i64 n5)), (1, (.int .i64 n6)), (2, (.int .i64 n7))] fun v9 =>
      bls Try.prog h7 29 1 [(0, v9)] fun v10 h8 =>
      app Try.prog h8 29 29 v5 v10 fun v11 h9 =>
      st Try.prog h9 29 (nx h2) (off 0 1) v11 fun h10 =>
      asI .i64 (gv ws0 0) fun n8 =>
      out .normal [(.int .i64 (add .i64 n8 1))] h10) (
      asI .i64 (gv ws0 0) fun n9 =>
      out .normal [(.int .i64 (add .i64 n9 1))] h7)) (
    out (.exit 0) [gv ws0 0] h5)

noncomputable def f18 (rec : Rec) (k : Nat) (v0 : Value) (h0 : H) : Option (Value × H) :=
  bx h0 24 v0 fun h1 =>
  al h1 31 [(.int .i64 0), (.slice none 0 0)] fun h2 =>
  ld Try.prog h2 3 (nx h0) 0 fun v1 =>
  asI .i64 v1 fun n0 =>
  bld Try.prog 31 [(0, (.int .i64 n0))] fun v2 =>
  al h2 31 [(.int .i64 0), (.slice none 0 0)] fun h3 =>
  st Try.prog h3 31 (nx h2) 0 v2 fun h4 =>
  ld Try.prog h4 22 (nx h0) (off 0 1) fun v3 =>
  len v3 fun n1 =>
  lp k (f18_l1 rec k h2 v3 n1) [(.int .i64 0)] h4 fun e0 _ h11 =>
  onE e0 0 (
    ld Try.prog h11 31 (nx h2) 0 fun v12 =>
    st Try.prog h11 31 (nx h1) 0 v12 fun h12 =>
    ld Try.prog h12 31 (nx h1) 0 fun v13 =>
    some (v13, h12)) (
    none)

theorem e18 (rec : Rec) (k : Nat) (v0 : Value) (h : H) : bodyT Try.prog E0 SC (XC Try.prog rec k) 18 (Value × H) [.opq v0] h (fun v h => some (v, h)) = f18 rec k v0 h := by kernel_rfl

theorem t18 {k : Nat} {v0 : Value} {h h1 : H} {v : Value} (hh : f18 rn k v0 h = some (v, h1)) : rn 18 #[v0] h = some (v, trunc Try.prog h h1 v) :=
  run_of_bodyT (args := [.opq v0]) rfl ((e18 _ _ _ _).trans hh)

theorem x18 {k : Nat} {v0 : Value} {h h1 : H} {v : Value} (hh : f18 rn k v0 h = some (v, h1)) (hp : plainO v = false) : rn 18 #[v0] h = some (v, h1) := by rw [t18 hh, trunc_not hp]

noncomputable def f19 (rec : Rec) (_k : Nat) (v0 : Value) (n0 : Int) (n1 : Int) (h0 : H) : Option (Value × H) :=
  bx h0 31 v0 fun h1 =>
  ld Try.prog h1 31 (nx h0) 0 fun v1 =>
  calls rec h1 65 [v1, (.int .i64 n0), (.int .i64 n1), (.func (.func 67) #[] #[])] fun v2 h2 =>
  ext v2 0 fun v3 =>
  ext v2 1 fun v4 =>
  asI .i64 v4 fun n2 =>
  some ((.tuple #[v3, (.int .i64 n2)]), h2)

theorem e19 (rec : Rec) (k : Nat) (v0 : Value) (n0 : Int) (n1 : Int) (h : H) : bodyT Try.prog E0 SC (XC Try.prog rec k) 19 (Value × H) [.opq v0, .int .i64 n0, .int .i64 n1] h (fun v h => some (v, h)) = f19 rec k v0 n0 n1 h := by kernel_rfl

theorem t19 {k : Nat} {v0 : Value} {n0 : Int} {n1 : Int} {h h1 : H} {v : Value} (hh : f19 rn k v0 n0 n1 h = some (v, h1)) : rn 19 #[v0, .int .i64 n0, .int .i64 n1] h = some (v, trunc Try.prog h h1 v) :=
  run_of_bodyT (args := [.opq v0, .int .i64 n0, .int .i64 n1]) rfl ((e19 _ _ _ _ _ _).trans hh)

theorem p19 {k : Nat} {v0 : Value} {n0 : Int} {n1 : Int} {h h1 : H} {v : Value} (hh : f19 rn k v0 n0 n1 h = some (v, h1)) (hp : plainO v = true) (x : Ext h h1) : rn 19 #[v0, .int .i64 n0, .int .i64 n1] h = some (v, h) := by rw [t19 hh, trunc_pure hp x]

theorem x19 {k : Nat} {v0 : Value} {n0 : Int} {n1 : Int} {h h1 : H} {v : Value} (hh : f19 rn k v0 n0 n1 h = some (v, h1)) (hp : plainO v = false) : rn 19 #[v0, .int .i64 n0, .int .i64 n1] h = some (v, h1) := by rw [t19 hh, trunc_not hp]

noncomputable def f20 (rec : Rec) (_k : Nat) (v0 : Value) (n0 : Int) (n1 : Int) (h0 : H) : Option (Value × H) :=
  bx h0 31 v0 fun h1 =>
  ld Try.prog h1 31 (nx h0) 0 fun v1 =>
  calls rec h1 65 [v1, (.int .i64 n0), (.int .i64 n1), (.func (.func 68) #[] #[(pt (nx h0) 0)])] fun v2 h2 =>
  ext v2 0 fun v3 =>
  ext v2 1 fun v4 =>
  asI .i64 v4 fun n2 =>
  some ((.tuple #[v3, (.int .i64 n2)]), h2)

theorem e20 (rec : Rec) (k : Nat) (v0 : Value) (n0 : Int) (n1 : Int) (h : H) : bodyT Try.prog E0 SC (XC Try.prog rec k) 20 (Value × H) [.opq v0, .int .i64 n0, .int .i64 n1] h (fun v h => some (v, h)) = f20 rec k v0 n0 n1 h := by kernel_rfl

theorem t20 {k : Nat} {v0 : Value} {n0 : Int} {n1 : Int} {h h1 : H} {v : Value} (hh : f20 rn k v0 n0 n1 h = some (v, h1)) : rn 20 #[v0, .int .i64 n0, .int .i64 n1] h = some (v, trunc Try.prog h h1 v) :=
  run_of_bodyT (args := [.opq v0, .int .i64 n0, .int .i64 n1]) rfl ((e20 _ _ _ _ _ _).trans hh)

theorem x20 {k : Nat} {v0 : Value} {n0 : Int} {n1 : Int} {h h1 : H} {v : Value} (hh : f20 rn k v0 n0 n1 h = some (v, h1)) (hp : plainO v = false) : rn 20 #[v0, .int .i64 n0, .int .i64 n1] h = some (v, h1) := by rw [t20 hh, trunc_not hp]

noncomputable def f21 (rec : Rec) (_k : Nat) (v0 : Value) (n0 : Int) (n1 : Int) (h0 : H) : Option (Value × H) :=
  bx h0 24 v0 fun h1 =>
  ld Try.prog h1 24 (nx h0) 0 fun v1 =>
  calls rec h1 35 [v1] fun v2 h2 =>
  asB v2 fun q0 =>
  ifB q0 (
    ld Try.prog h2 24 (nx h0) 0 fun v3 =>
    calls rec h2 42 [v3, (.int .i64 n0)] fun v4 h3 =>
    asB v4 fun q1 =>
    ifB q1 (
      ld Try.prog h3 24 (nx h0) 0 fun v5 =>
      calls rec h3 42 [v5, (.int .i64 n1)] fun v6 h4 =>
      asB v6 fun q2 =>
      ifB q2 (
        some ((.bool (not (eq n0 n1))), h4)) (
        some ((.bool false), h4))) (
      some ((.bool false), h3))) (
    some ((.bool false), h2))

theorem e21 (rec : Rec) (k : Nat) (v0 : Value) (n0 : Int) (n1 : Int) (h : H) : bodyT Try.prog E0 SC (XC Try.prog rec k) 21 (Value × H) [.opq v0, .int .i64 n0, .int .i64 n1] h (fun v h => some (v, h)) = f21 rec k v0 n0 n1 h := by kernel_rfl

theorem t21 {k : Nat} {v0 : Value} {n0 : Int} {n1 : Int} {h h1 : H} {v : Value} (hh : f21 rn k v0 n0 n1 h = some (v, h1)) : rn 21 #[v0, .int .i64 n0, .int .i64 n1] h = some (v, trunc Try.prog h h1 v) :=
  run_of_bodyT (args := [.opq v0, .int .i64 n0, .int .i64 n1]) rfl ((e21 _ _ _ _ _ _).trans hh)

theorem p21 {k : Nat} {v0 : Value} {n0 : Int} {n1 : Int} {h h1 : H} {v : Value} (hh : f21 rn k v0 n0 n1 h = some (v, h1)) (hp : plainO v = true) (x : Ext h h1) : rn 21 #[v0, .int .i64 n0, .int .i64 n1] h = some (v, h) := by rw [t21 hh, trunc_pure hp x]

noncomputable def f23 (rec : Rec) (_k : Nat) (v0 : Value) (n0 : Int) (n1 : Int) (h0 : H) : Option (Value × H) :=
  bx h0 24 v0 fun h1 =>
  ld Try.prog h1 24 (nx h0) 0 fun v1 =>
  calls rec h1 70 [v1, (.int .i64 n0), (.int .i64 n1), (.int .i64 0)] fun v2 h2 =>
  ext v2 0 fun v3 =>
  ext v2 1 fun v4 =>
  asI .i64 v4 fun n2 =>
  some ((.tuple #[v3, (.int .i64 n2)]), h2)

theorem e23 (rec : Rec) (k : Nat) (v0 : Value) (n0 : Int) (n1 : Int) (h : H) : bodyT Try.prog E0 SC (XC Try.prog rec k) 23 (Value × H) [.opq v0, .int .i64 n0, .int .i64 n1] h (fun v h => some (v, h)) = f23 rec k v0 n0 n1 h := by kernel_rfl

theorem t23 {k : Nat} {v0 : Value} {n0 : Int} {n1 : Int} {h h1 : H} {v : Value} (hh : f23 rn k v0 n0 n1 h = some (v, h1)) : rn 23 #[v0, .int .i64 n0, .int .i64 n1] h = some (v, trunc Try.prog h h1 v) :=
  run_of_bodyT (args := [.opq v0, .int .i64 n0, .int .i64 n1]) rfl ((e23 _ _ _ _ _ _).trans hh)

theorem x23 {k : Nat} {v0 : Value} {n0 : Int} {n1 : Int} {h h1 : H} {v : Value} (hh : f23 rn k v0 n0 n1 h = some (v, h1)) (hp : plainO v = false) : rn 23 #[v0, .int .i64 n0, .int .i64 n1] h = some (v, h1) := by rw [t23 hh, trunc_not hp]

noncomputable def f24 (rec : Rec) (_k : Nat) (v0 : Value) (n0 : Int) (n1 : Int) (h0 : H) : Option (Value × H) :=
  bx h0 24 v0 fun h1 =>
  ld Try.prog h1 24 (nx h0) 0 fun v1 =>
  calls rec h1 70 [v1, (.int .i64 n0), (.int .i64 n1), (.int .i64 1)] fun v2 h2 =>
  ext v2 0 fun v3 =>
  ext v2 1 fun v4 =>
  asI .i64 v4 fun n2 =>
  some ((.tuple #[v3, (.int .i64 n2)]), h2)

theorem e24 (rec : Rec) (k : Nat) (v0 : Value) (n0 : Int) (n1 : Int) (h : H) : bodyT Try.prog E0 SC (XC Try.prog rec k) 24 (Value × H) [.opq v0, .int .i64 n0, .int .i64 n1] h (fun v h => some (v, h)) = f24 rec k v0 n0 n1 h := by kernel_rfl

theorem t24 {k : Nat} {v0 : Value} {n0 : Int} {n1 : Int} {h h1 : H} {v : Value} (hh : f24 rn k v0 n0 n1 h = some (v, h1)) : rn 24 #[v0, .int .i64 n0, .int .i64 n1] h = some (v, trunc Try.prog h h1 v) :=
  run_of_bodyT (args := [.opq v0, .int .i64 n0, .int .i64 n1]) rfl ((e24 _ _ _ _ _ _).trans hh)

theorem x24 {k : Nat} {v0 : Value} {n0 : Int} {n1 : Int} {h h1 : H} {v : Value} (hh : f24 rn k v0 n0 n1 h = some (v, h1)) (hp : plainO v = false) : rn 24 #[v0, .int .i64 n0, .int .i64 n1] h = some (v, h1) := by rw [t24 hh, trunc_not hp]

noncomputable def f25 (rec : Rec) (_k : Nat) (v0 : Value) (n0 : Int) (n1 : Int) (h0 : H) : Option (Value × H) :=
  bx h0 24 v0 fun h1 =>
  ld Try.prog h1 24 (nx h0) 0 fun v1 =>
  calls rec h1 70 [v1, (.int .i64 n0), (.int .i64 n1), (.int .i64 2)] fun v2 h2 =>
  ext v2 0 fun v3 =>
  ext v2 1 fun v4 =>
  asI .i64 v4 fun n2 =>
  some ((.tuple #[v3, (.int .i64 n2)]), h2)

theorem e25 (rec : Rec) (k : Nat) (v0 : Value) (n0 : Int) (n1 : Int) (h : H) : bodyT Try.prog E0 SC (XC Try.prog rec k) 25 (Value × H) [.opq v0, .int .i64 n0, .int .i64 n1] h (fun v h => some (v, h)) = f25 rec k v0 n0 n1 h := by kernel_rfl

theorem t25 {k : Nat} {v0 : Value} {n0 : Int} {n1 : Int} {h h1 : H} {v : Value} (hh : f25 rn k v0 n0 n1 h = some (v, h1)) : rn 25 #[v0, .int .i64 n0, .int .i64 n1] h = some (v, trunc Try.prog h h1 v) :=
  run_of_bodyT (args := [.opq v0, .int .i64 n0, .int .i64 n1]) rfl ((e25 _ _ _ _ _ _).trans hh)

theorem x25 {k : Nat} {v0 : Value} {n0 : Int} {n1 : Int} {h h1 : H} {v : Value} (hh : f25 rn k v0 n0 n1 h = some (v, h1)) (hp : plainO v = false) : rn 25 #[v0, .int .i64 n0, .int .i64 n1] h = some (v, h1) := by rw [t25 hh, trunc_not hp]

noncomputable def f26_l1 (_rec : Rec) (_k : Nat) (v0 : Value) (v1 : Value) (n2 : Int) (ws0 : List Value) (h1 : H) : Option (Ex × List Value × H) :=
  asI .i64 (gv ws0 1) fun n3 =>
  ifB (lt n3 n2) (
    asK (gv ws0 1) fun n4 =>
    six v0 n4 1 fun b0 b1 =>
    ld Try.prog h1 3 b0 b1 fun v2 =>
    asI .i64 v2 fun n5 =>
    asK (gv ws0 1) fun n6 =>
    six v1 n6 1 fun b2 b3 =>
    ld Try.prog h1 3 b2 b3 fun v3 =>
    asI .i64 v3 fun n7 =>
    ifB (not (eq n5 n7)) (
      out .ret [(.bool false), gv ws0 1] h1) (
      asI .i64 (gv ws0 1) fun n8 =>
      out .normal [gv ws0 0, (.int .i64 (add .i64 n8 1))] h1)) (
    out (.exit 0) [gv ws0 0, gv ws0 1] h1)

noncomputable def f26 (rec : Rec) (k : Nat) (v0 : Value) (v1 : Value) (h0 : H) : Option (Value × H) :=
  len v0 fun n0 =>
  len v1 fun n1 =>
  ifB (not (eq n0 n1)) (
    some ((.bool false), h0)) (
    len v0 fun n2 =>
    lp k (f26_l1 rec k v0 v1 n2) [(.bool false), (.int .i64 0)] h0 fun e0 ws1 h2 =>
    onE e0 0 (
      some ((.bool true), h2)) (
      onR e0 (
        some (gv ws1 0, h2))))

theorem e26 (rec : Rec) (k : Nat) (v0 : Value) (v1 : Value) (h : H) : bodyT Try.prog E0 SC (XC Try.prog rec k) 26 (Value × H) [.opq v0, .opq v1] h (fun v h => some (v, h)) = f26 rec k v0 v1 h := by kernel_rfl

theorem t26 {k : Nat} {v0 : Value} {v1 : Value} {h h1 : H} {v : Value} (hh : f26 rn k v0 v1 h = some (v, h1)) : rn 26 #[v0, v1] h = some (v, trunc Try.prog h h1 v) :=
  run_of_bodyT (args := [.opq v0, .opq v1]) rfl ((e26 _ _ _ _ _).trans hh)

theorem p26 {k : Nat} {v0 : Value} {v1 : Value} {h h1 : H} {v : Value} (hh : f26 rn k v0 v1 h = some (v, h1)) (hp : plainO v = true) (x : Ext h h1) : rn 26 #[v0, v1] h = some (v, h) := by rw [t26 hh, trunc_pure hp x]

noncomputable def f34 (_rec : Rec) (_k : Nat) (n0 : Int) (h0 : H) : Option (Value × H) :=
  ifB (lt n0 4) (
    nz 2 (
      some ((.int .i64 (quo .i64 (mul .i64 n0 (sub .i64 n0 1)) 2)), h0))) (
    some ((.int .i64 (sub .i64 (mul .i64 2 n0) 4)), h0))

theorem e34 (rec : Rec) (k : Nat) (n0 : Int) (h : H) : bodyT Try.prog E0 SC (XC Try.prog rec k) 34 (Value × H) [.int .i64 n0] h (fun v h => some (v, h)) = f34 rec k n0 h := by kernel_rfl

theorem t34 {k : Nat} {n0 : Int} {h h1 : H} {v : Value} (hh : f34 rn k n0 h = some (v, h1)) : rn 34 #[.int .i64 n0] h = some (v, trunc Try.prog h h1 v) :=
  run_of_bodyT (args := [.int .i64 n0]) rfl ((e34 _ _ _ _).trans hh)

theorem p34 {k : Nat} {n0 : Int} {h h1 : H} {v : Value} (hh : f34 rn k n0 h = some (v, h1)) (hp : plainO v = true) (x : Ext h h1) : rn 34 #[.int .i64 n0] h = some (v, h) := by rw [t34 hh, trunc_pure hp x]

noncomputable def f35_l2 (_rec : Rec) (_k : Nat) (h2 : H) (v17 : Value) (n16 : Int) (ws1 : List Value) (h5 : H) : Option (Ex × List Value × H) :=
  asI .i64 (gv ws1 1) fun n17 =>
  ifB (lt n17 n16) (
    asK (gv ws1 1) fun n18 =>
    six v17 n18 3 fun b2 b3 =>
    ld Try.prog h5 59 b2 b3 fun v18 =>
    al h5 59 [(.int .i64 0), (.int .i64 0), (.int .i64 0)] fun h6 =>
    st Try.prog h6 59 (nx h5) 0 v18 fun h7 =>
    ld Try.prog h7 3 (nx h5) (off 0 2) fun v19 =>
    asI .i64 v19 fun n19 =>
    ld Try.prog h7 3 (nx h2) (off 0 2) fun v20 =>
    asI .i64 v20 fun n20 =>
    ifB (lt n20 n19) (
      out .ret [(.bool false), gv ws1 1] h7) (
      ld Try.prog h7 3 (nx h5) (off 0 2) fun v21 =>
      asI .i64 v21 fun n21 =>
      ld Try.prog h7 3 (nx h2) (off 0 2) fun v22 =>
      asI .i64 v22 fun n22 =>
      ifB (eq n21 n22) (
        ld Try.prog h7 3 (nx h5) 0 fun v23 =>
        asI .i64 v23 fun n23 =>
        ld Try.prog h7 3 (nx h2) 0 fun v24 =>
        asI .i64 v24 fun n24 =>
        ifB (eq n23 n24) (
          out .ret [(.bool false), gv ws1 1] h7) (
          ld Try.prog h7 3 (nx h5) 0 fun v25 =>
          asI .i64 v25 fun n25 =>
          ld Try.prog h7 3 (nx h2) (off 0 1) fun v26 =>
          asI .i64 v26 fun n26 =>
          ifB (eq n25 n26) (
            out .ret [(.bool false), gv ws1 1] h7) (
            ld Try.prog h7 3 (nx h5) (off 0 1) fun v27 =>
            asI .i64 v27 fun n27 =>
            ld Try.prog h7 3 (nx h2) 0 fun v28 =>
            asI .i64 v28 fun n28 =>
            ifB (eq n27 n28) (
              out .ret [(.bool false), gv ws1 1] h7) (
              ld Try.prog h7 3 (nx h5) (off 0 1) fun v29 =>
              asI .i64 v29 fun n29 =>
              ld Try.prog h7 3 (nx h2) (off 0 1) fun v30 =>
              asI .i64 v30 fun n30 =>
              ifB (eq n29 n30) (
                out .ret [(.bool false), gv ws1 1] h7) (
                asI .i64 (gv ws1 1) fun n31 =>
                out .normal [gv ws1 0, (.int .i64 (add .i64 n31 1))] h7))))) (
        asI .i64 (gv ws1 1) fun n32 =>
        out .normal [gv ws1 0, (.int .i64 (add .i64 n32 1))] h7))) (
    out (.exit 2) [gv ws1 0, gv ws1 1] h5)

noncomputable def f35_l1 (rec : Rec) (k : Nat) (h0 : H) (v4 : Value) (n3 : Int) (ws0 : List Value) (h2 : H) : Option (Ex × List Value × H) :=
  asI .i64 (gv ws0 1) fun n4 =>
  ifB (lt n4 n3) (
    asK (gv ws0 1) fun n5 =>
    six v4 n5 3 fun b0 b1 =>
    ld Try.prog h2 59 b0 b1 fun v5 =>
    al h2 59 [(.int .i64 0), (.int .i64 0), (.int .i64 0)] fun h3 =>
    st Try.prog h3 59 (nx h2) 0 v5 fun h4 =>
    ld Try.prog h4 3 (nx h2) 0 fun v6 =>
    asI .i64 v6 fun n6 =>
    ifB (lt n6 0) (
      out .ret [(.bool false), gv ws0 1] h4) (
      ld Try.prog h4 3 (nx h2) 0 fun v7 =>
      asI .i64 v7 fun n7 =>
      ld Try.prog h4 3 (nx h0) 0 fun v8 =>
      asI .i64 v8 fun n8 =>
      ifB (le n8 n7) (
        out .ret [(.bool false), gv ws0 1] h4) (
        ld Try.prog h4 3 (nx h2) (off 0 1) fun v9 =>
        asI .i64 v9 fun n9 =>
        ifB (lt n9 0) (
          out .ret [(.bool false), gv ws0 1] h4) (
          ld Try.prog h4 3 (nx h2) (off 0 1) fun v10 =>
          asI .i64 v10 fun n10 =>
          ld Try.prog h4 3 (nx h0) 0 fun v11 =>
          asI .i64 v11 fun n11 =>
          ifB (le n11 n10) (
            out .ret [(.bool false), gv ws0 1] h4) (
            ld Try.prog h4 3 (nx h2) 0 fun v12 =>
            asI .i64 v12 fun n12 =>
            ld Try.prog h4 3 (nx h2) (off 0 1) fun v13 =>
            asI .i64 v13 fun n13 =>
            ifB (eq n12 n13) (
              out .ret [(.bool false), gv ws0 1] h4) (
              ld Try.prog h4 3 (nx h2) (off 0 2) fun v14 =>
              asI .i64 v14 fun n14 =>
              ifB (lt n14 1) (
                out .ret [(.bool false), gv ws0 1] h4) (
                ld Try.prog h4 3 (nx h2) (off 0 2) fun v15 =>
                asI .i64 v15 fun n15 =>
                ifB (lt 30 n15) (
                  out .ret [(.bool false), gv ws0 1] h4) (
                  ld Try.prog h4 22 (nx h0) (off 0 1) fun v16 =>
                  sli Try.prog h4 22 v16 none (some (gv ws0 1)) none fun v17 =>
                  len v17 fun n16 =>
                  lp k (f35_l2 rec k h2 v17 n16) [gv ws0 0, (.int .i64 0)] h4 fun e0 ws2 h8 =>
                  onE e0 2 (
                    asI .i64 (gv ws0 1) fun n33 =>
                    out .normal [gv ws2 0, (.int .i64 (add .i64 n33 1))] h8) (
                    onR e0 (
                      out .ret [gv ws2 0, gv ws0 1] h8)))))))))) (
    out (.exit 0) [gv ws0 0, gv ws0 1] h2)

noncomputable def f35 (rec : Rec) (k : Nat) (v0 : Value) (h0 : H) : Option (Value × H) :=
  bx h0 24 v0 fun h1 =>
  ld Try.prog h1 3 (nx h0) 0 fun v1 =>
  asI .i64 v1 fun n0 =>
  ifB (lt n0 1) (
    some ((.bool false), h1)) (
    ld Try.prog h1 3 (nx h0) 0 fun v2 =>
    asI .i64 v2 fun n1 =>
    ifB (lt 7 n1) (
      some ((.bool false), h1)) (
      ld Try.prog h1 22 (nx h0) (off 0 1) fun v3 =>
      len v3 fun n2 =>
      ifB (lt 24 n2) (
        some ((.bool false), h1)) (
        ld Try.prog h1 22 (nx h0) (off 0 1) fun v4 =>
        len v4 fun n3 =>
        lp k (f35_l1 rec k h0 v4 n3) [(.bool false), (.int .i64 0)] h1 fun e1 ws3 h9 =>
        onE e1 0 (
          some ((.bool true), h9)) (
          onR e1 (
            some (gv ws3 0, h9))))))

theorem e35 (rec : Rec) (k : Nat) (v0 : Value) (h : H) : bodyT Try.prog E0 SC (XC Try.prog rec k) 35 (Value × H) [.opq v0] h (fun v h => some (v, h)) = f35 rec k v0 h := by kernel_rfl

theorem t35 {k : Nat} {v0 : Value} {h h1 : H} {v : Value} (hh : f35 rn k v0 h = some (v, h1)) : rn 35 #[v0] h = some (v, trunc Try.prog h h1 v) :=
  run_of_bodyT (args := [.opq v0]) rfl ((e35 _ _ _ _).trans hh)

theorem p35 {k : Nat} {v0 : Value} {h h1 : H} {v : Value} (hh : f35 rn k v0 h = some (v, h1)) (hp : plainO v = true) (x : Ext h h1) : rn 35 #[v0] h = some (v, h) := by rw [t35 hh, trunc_pure hp x]

noncomputable def f36_l1 (_rec : Rec) (_k : Nat) (h0 : H) (v2 : Value) (n0 : Int) (ws0 : List Value) (h3 : H) : Option (Ex × List Value × H) :=
  asI .i64 (gv ws0 1) fun n1 =>
  ifB (lt n1 n0) (
    asK (gv ws0 1) fun n2 =>
    six v2 n2 1 fun b0 b1 =>
    ld Try.prog h3 3 b0 b1 fun v3 =>
    asI .i64 v3 fun n3 =>
    ld Try.prog h3 3 (nx h0) 0 fun v4 =>
    asI .i64 v4 fun n4 =>
    nn n4 (
      ifB (not (eq n3 (sub .i64 (shl .i64 1 n4) 1))) (
        out .ret [(.bool false), gv ws0 1] h3) (
        asI .i64 (gv ws0 1) fun n5 =>
        out .normal [gv ws0 0, (.int .i64 (add .i64 n5 1))] h3))) (
    out (.exit 0) [gv ws0 0, gv ws0 1] h3)

noncomputable def f36 (rec : Rec) (k : Nat) (v0 : Value) (h0 : H) : Option (Value × H) :=
  bx h0 24 v0 fun h1 =>
  ld Try.prog h1 24 (nx h0) 0 fun v1 =>
  calls rec h1 40 [v1] fun v2 h2 =>
  len v2 fun n0 =>
  lp k (f36_l1 rec k h0 v2 n0) [(.bool false), (.int .i64 0)] h2 fun e0 ws1 h4 =>
  onE e0 0 (
    some ((.bool true), h4)) (
    onR e0 (
      some (gv ws1 0, h4)))

theorem e36 (rec : Rec) (k : Nat) (v0 : Value) (h : H) : bodyT Try.prog E0 SC (XC Try.prog rec k) 36 (Value × H) [.opq v0] h (fun v h => some (v, h)) = f36 rec k v0 h := by kernel_rfl

theorem t36 {k : Nat} {v0 : Value} {h h1 : H} {v : Value} (hh : f36 rn k v0 h = some (v, h1)) : rn 36 #[v0] h = some (v, trunc Try.prog h h1 v) :=
  run_of_bodyT (args := [.opq v0]) rfl ((e36 _ _ _ _).trans hh)

theorem p36 {k : Nat} {v0 : Value} {h h1 : H} {v : Value} (hh : f36 rn k v0 h = some (v, h1)) (hp : plainO v = true) (x : Ext h h1) : rn 36 #[v0] h = some (v, h) := by rw [t36 hh, trunc_pure hp x]

noncomputable def f37_l1 (rec : Rec) (_k : Nat) (v4 : Value) (v5 : Value) (n0 : Int) (ws0 : List Value) (h4 : H) : Option (Ex × List Value × H) :=
  asI .i64 (gv ws0 0) fun n1 =>
  ifB (lt n1 n0) (
    asK (gv ws0 0) fun n2 =>
    six v5 n2 3 fun b0 b1 =>
    ld Try.prog h4 56 b0 b1 fun v6 =>
    al h4 56 [(.int .i64 0), (.int .i64 0), (.int .i64 0)] fun h5 =>
    st Try.prog h5 56 (nx h4) 0 v6 fun h6 =>
    ld Try.prog h6 56 (nx h4) 0 fun v7 =>
    calls rec h6 78 [v4, v7] fun v8 h7 =>
    asB v8 fun _ =>
    asI .i64 (gv ws0 0) fun n3 =>
    out .normal [(.int .i64 (add .i64 n3 1))] h7) (
    out (.exit 0) [gv ws0 0] h4)

noncomputable def f37 (rec : Rec) (k : Nat) (v0 : Value) (h0 : H) : Option (Value × H) :=
  bx h0 31 v0 fun h1 =>
  ld Try.prog h1 31 (nx h0) 0 fun v1 =>
  calls rec h1 71 [v1] fun v2 h2 =>
  asB v2 fun q0 =>
  ifB (not q0) (
    some ((.tuple #[(.slice none 0 0), (.int .i64 2)]), h2)) (
    ld Try.prog h2 31 (nx h0) 0 fun v3 =>
    calls rec h2 77 [v3] fun v4 h3 =>
    ld Try.prog h3 29 (nx h0) (off 0 1) fun v5 =>
    len v5 fun n0 =>
    lp k (f37_l1 rec k v4 v5 n0) [(.int .i64 0)] h3 fun e0 _ h8 =>
    onE e0 0 (
      some ((.tuple #[v4, (.int .i64 0)]), h8)) (
      none))

theorem e37 (rec : Rec) (k : Nat) (v0 : Value) (h : H) : bodyT Try.prog E0 SC (XC Try.prog rec k) 37 (Value × H) [.opq v0] h (fun v h => some (v, h)) = f37 rec k v0 h := by kernel_rfl

theorem t37 {k : Nat} {v0 : Value} {h h1 : H} {v : Value} (hh : f37 rn k v0 h = some (v, h1)) : rn 37 #[v0] h = some (v, trunc Try.prog h h1 v) :=
  run_of_bodyT (args := [.opq v0]) rfl ((e37 _ _ _ _).trans hh)

theorem x37 {k : Nat} {v0 : Value} {h h1 : H} {v : Value} (hh : f37 rn k v0 h = some (v, h1)) (hp : plainO v = false) : rn 37 #[v0] h = some (v, h1) := by rw [t37 hh, trunc_not hp]

noncomputable def f38_l1 (_rec : Rec) (_k : Nat) (h0 : H) (v6 : Value) (n1 : Int) (ws0 : List Value) (h5 : H) : Option (Ex × List Value × H) :=
  asI .i64 (gv ws0 2) fun n2 =>
  ifB (lt n2 n1) (
    asK (gv ws0 2) fun n3 =>
    six v6 n3 3 fun b0 b1 =>
    ld Try.prog h5 56 b0 b1 fun v7 =>
    al h5 56 [(.int .i64 0), (.int .i64 0), (.int .i64 0)] fun h6 =>
    st Try.prog h6 56 (nx h5) 0 v7 fun h7 =>
    ld Try.prog h7 3 (nx h5) 0 fun v8 =>
    asI .i64 v8 fun n4 =>
    asI .i64 (gv ws0 0) fun n5 =>
    nn n4 (
      ifB (eq (and .i64 (shr .i64 n5 n4) 1) 1) (
        ld Try.prog h7 3 (nx h5) 0 fun v9 =>
        asI .i64 v9 fun n6 =>
        nn n6 (
          ld Try.prog h7 3 (nx h5) (off 0 1) fun v10 =>
          asI .i64 v10 fun n7 =>
          nn n7 (
            asI .i64 (gv ws0 0) fun n8 =>
            asI .i64 (gv ws0 2) fun n9 =>
            ld Try.prog h7 29 (nx h0) (off 0 1) fun v11 =>
            len v11 fun n10 =>
            ifB (eq (add .i64 n9 1) n10) (
              bls Try.prog h7 25 1 [(0, (.int .i64 (or .i64 n8 (or .i64 (shl .i64 1 n6) (shl .i64 1 n7)))))] fun v12 h8 =>
              app Try.prog h8 25 25 (gv ws0 1) v12 fun v13 h9 =>
              asI .i64 (gv ws0 2) fun n11 =>
              out .normal [(.int .i64 (or .i64 n8 (or .i64 (shl .i64 1 n6) (shl .i64 1 n7)))), v13, (.int .i64 (add .i64 n11 1))] h9) (
              ld Try.prog h7 29 (nx h0) (off 0 1) fun v14 =>
              asI .i64 (gv ws0 2) fun n12 =>
              six v14 (add .i64 n12 1) 3 fun b2 b3 =>
              ld Try.prog h7 3 b2 (off b3 2) fun v15 =>
              asI .i64 v15 fun n13 =>
              ld Try.prog h7 3 (nx h5) (off 0 2) fun v16 =>
              asI .i64 v16 fun n14 =>
              ifB (lt n14 n13) (
                bls Try.prog h7 25 1 [(0, (.int .i64 (or .i64 n8 (or .i64 (shl .i64 1 n6) (shl .i64 1 n7)))))] fun v17 h10 =>
                app Try.prog h10 25 25 (gv ws0 1) v17 fun v18 h11 =>
                asI .i64 (gv ws0 2) fun n15 =>
                out .normal [(.int .i64 (or .i64 n8 (or .i64 (shl .i64 1 n6) (shl .i64 1 n7)))), v18, (.int .i64 (add .i64 n15 1))] h11) (
                asI .i64 (gv ws0 2) fun n16 =>
                out .normal [(.int .i64 (or .i64 n8 (or .i64 (shl .i64 1 n6) (shl .i64 1 n7)))), gv ws0 1, (.int .i64 (add .i64 n16 1))] h7))))) (
        ld Try.prog h7 3 (nx h5) (off 0 1) fun v19 =>
        asI .i64 v19 fun n17 =>
        asI .i64 (gv ws0 0) fun n18 =>
        nn n17 (
          ifB (eq (and .i64 (shr .i64 n18 n17) 1) 1) (
            ld Try.prog h7 3 (nx h5) 0 fun v20 =>
            asI .i64 v20 fun n19 =>
            nn n19 (
              ld Try.prog h7 3 (nx h5) (off 0 1) fun v21 =>
              asI .i64 v21 fun n20 =>
              nn n20 (
                asI .i64 (gv ws0 0) fun n21 =>
                asI .i64 (gv ws0 2) fun n22 =>
                ld Try.prog h7 29 (nx h0) (off 0 1) fun v22 =>
                len v22 fun n23 =>
                ifB (eq (add .i64 n22 1) n23) (
                  bls Try.prog h7 25 1 [(0, (.int .i64 (or .i64 n21 (or .i64 (shl .i64 1 n19) (shl .i64 1 n20)))))] fun v23 h12 =>
                  app Try.prog h12 25 25 (gv ws0 1) v23 fun v24 h13 =>
                  asI .i64 (gv ws0 2) fun n24 =>
                  out .normal [(.int .i64 (or .i64 n21 (or .i64 (shl .i64 1 n19) (shl .i64 1 n20)))), v24, (.int .i64 (add .i64 n24 1))] h13) (
                  ld Try.prog h7 29 (nx h0) (off 0 1) fun v25 =>
                  asI .i64 (gv ws0 2) fun n25 =>
                  six v25 (add .i64 n25 1) 3 fun b4 b5 =>
                  ld Try.prog h7 3 b4 (off b5 2) fun v26 =>
                  asI .i64 v26 fun n26 =>
                  ld Try.prog h7 3 (nx h5) (off 0 2) fun v27 =>
                  asI .i64 v27 fun n27 =>
                  ifB (lt n27 n26) (
                    bls Try.prog h7 25 1 [(0, (.int .i64 (or .i64 n21 (or .i64 (shl .i64 1 n19) (shl .i64 1 n20)))))] fun v28 h14 =>
                    app Try.prog h14 25 25 (gv ws0 1) v28 fun v29 h15 =>
                    asI .i64 (gv ws0 2) fun n28 =>
                    out .normal [(.int .i64 (or .i64 n21 (or .i64 (shl .i64 1 n19) (shl .i64 1 n20)))), v29, (.int .i64 (add .i64 n28 1))] h15) (
                    asI .i64 (gv ws0 2) fun n29 =>
                    out .normal [(.int .i64 (or .i64 n21 (or .i64 (shl .i64 1 n19) (shl .i64 1 n20)))), gv ws0 1, (.int .i64 (add .i64 n29 1))] h7))))) (
            asI .i64 (gv ws0 2) fun n30 =>
            ld Try.prog h7 29 (nx h0) (off 0 1) fun v30 =>
            len v30 fun n31 =>
            ifB (eq (add .i64 n30 1) n31) (
              bls Try.prog h7 25 1 [(0, gv ws0 0)] fun v31 h16 =>
              app Try.prog h16 25 25 (gv ws0 1) v31 fun v32 h17 =>
              asI .i64 (gv ws0 2) fun n32 =>
              out .normal [gv ws0 0, v32, (.int .i64 (add .i64 n32 1))] h17) (
              ld Try.prog h7 29 (nx h0) (off 0 1) fun v33 =>
              asI .i64 (gv ws0 2) fun n33 =>
              six v33 (add .i64 n33 1) 3 fun b6 b7 =>
              ld Try.prog h7 3 b6 (off b7 2) fun v34 =>
              asI .i64 v34 fun n34 =>
              ld Try.prog h7 3 (nx h5) (off 0 2) fun v35 =>
              asI .i64 v35 fun n35 =>
              ifB (lt n35 n34) (
                bls Try.prog h7 25 1 [(0, gv ws0 0)] fun v36 h18 =>
                app Try.prog h18 25 25 (gv ws0 1) v36 fun v37 h19 =>
                asI .i64 (gv ws0 2) fun n36 =>
                out .normal [gv ws0 0, v37, (.int .i64 (add .i64 n36 1))] h19) (
                asI .i64 (gv ws0 2) fun n37 =>
                out .normal [gv ws0 0, gv ws0 1, (.int .i64 (add .i64 n37 1))] h7))))))) (
    out (.exit 0) [gv ws0 0, gv ws0 1, gv ws0 2] h5)

noncomputable def f38 (rec : Rec) (k : Nat) (v0 : Value) (n0 : Int) (h0 : H) : Option (Value × H) :=
  bx h0 31 v0 fun h1 =>
  ld Try.prog h1 31 (nx h0) 0 fun v1 =>
  calls rec h1 71 [v1] fun v2 h2 =>
  asB v2 fun q0 =>
  ifB (not q0) (
    some ((.tuple #[(.slice none 0 0), (.int .i64 2)]), h2)) (
    ld Try.prog h2 31 (nx h0) 0 fun v3 =>
    calls rec h2 72 [v3, (.int .i64 n0)] fun v4 h3 =>
    asB v4 fun q1 =>
    ifB (not q1) (
      some ((.tuple #[(.slice none 0 0), (.int .i64 2)]), h3)) (
      nn n0 (
        bls Try.prog h3 25 1 [(0, (.int .i64 (shl .i64 1 n0)))] fun v5 h4 =>
        ld Try.prog h4 29 (nx h0) (off 0 1) fun v6 =>
        len v6 fun n1 =>
        lp k (f38_l1 rec k h0 v6 n1) [(.int .i64 (shl .i64 1 n0)), v5, (.int .i64 0)] h4 fun e0 ws1 h20 =>
        onE e0 0 (
          some ((.tuple #[gv ws1 1, (.int .i64 0)]), h20)) (
          none))))

theorem e38 (rec : Rec) (k : Nat) (v0 : Value) (n0 : Int) (h : H) : bodyT Try.prog E0 SC (XC Try.prog rec k) 38 (Value × H) [.opq v0, .int .i64 n0] h (fun v h => some (v, h)) = f38 rec k v0 n0 h := by kernel_rfl

theorem t38 {k : Nat} {v0 : Value} {n0 : Int} {h h1 : H} {v : Value} (hh : f38 rn k v0 n0 h = some (v, h1)) : rn 38 #[v0, .int .i64 n0] h = some (v, trunc Try.prog h h1 v) :=
  run_of_bodyT (args := [.opq v0, .int .i64 n0]) rfl ((e38 _ _ _ _ _).trans hh)

theorem x38 {k : Nat} {v0 : Value} {n0 : Int} {h h1 : H} {v : Value} (hh : f38 rn k v0 n0 h = some (v, h1)) (hp : plainO v = false) : rn 38 #[v0, .int .i64 n0] h = some (v, h1) := by rw [t38 hh, trunc_not hp]

noncomputable def f39_l1 (rec : Rec) (_k : Nat) (v4 : Value) (v5 : Value) (n0 : Int) (ws0 : List Value) (h4 : H) : Option (Ex × List Value × H) :=
  asI .i64 (gv ws0 1) fun n1 =>
  ifB (lt n1 n0) (
    asK (gv ws0 1) fun n2 =>
    six v5 n2 3 fun b0 b1 =>
    ld Try.prog h4 56 b0 b1 fun v6 =>
    al h4 56 [(.int .i64 0), (.int .i64 0), (.int .i64 0)] fun h5 =>
    st Try.prog h5 56 (nx h4) 0 v6 fun h6 =>
    ld Try.prog h6 56 (nx h4) 0 fun v7 =>
    calls rec h6 78 [v4, v7] fun v8 h7 =>
    asB v8 fun q1 =>
    ifB (not q1) (
      bls Try.prog h7 25 1 [(0, gv ws0 1)] fun v9 h8 =>
      app Try.prog h8 25 25 (gv ws0 0) v9 fun v10 h9 =>
      asI .i64 (gv ws0 1) fun n3 =>
      out .normal [v10, (.int .i64 (add .i64 n3 1))] h9) (
      asI .i64 (gv ws0 1) fun n4 =>
      out .normal [gv ws0 0, (.int .i64 (add .i64 n4 1))] h7)) (
    out (.exit 0) [gv ws0 0, gv ws0 1] h4)

noncomputable def f39 (rec : Rec) (k : Nat) (v0 : Value) (h0 : H) : Option (Value × H) :=
  bx h0 31 v0 fun h1 =>
  ld Try.prog h1 31 (nx h0) 0 fun v1 =>
  calls rec h1 71 [v1] fun v2 h2 =>
  asB v2 fun q0 =>
  ifB (not q0) (
    some ((.tuple #[(.slice none 0 0), (.int .i64 2)]), h2)) (
    ld Try.prog h2 31 (nx h0) 0 fun v3 =>
    calls rec h2 77 [v3] fun v4 h3 =>
    ld Try.prog h3 29 (nx h0) (off 0 1) fun v5 =>
    len v5 fun n0 =>
    lp k (f39_l1 rec k v4 v5 n0) [(.slice none 0 0), (.int .i64 0)] h3 fun e0 ws1 h10 =>
    onE e0 0 (
      some ((.tuple #[gv ws1 0, (.int .i64 0)]), h10)) (
      none))

theorem e39 (rec : Rec) (k : Nat) (v0 : Value) (h : H) : bodyT Try.prog E0 SC (XC Try.prog rec k) 39 (Value × H) [.opq v0] h (fun v h => some (v, h)) = f39 rec k v0 h := by kernel_rfl

theorem t39 {k : Nat} {v0 : Value} {h h1 : H} {v : Value} (hh : f39 rn k v0 h = some (v, h1)) : rn 39 #[v0] h = some (v, trunc Try.prog h h1 v) :=
  run_of_bodyT (args := [.opq v0]) rfl ((e39 _ _ _ _).trans hh)

theorem x39 {k : Nat} {v0 : Value} {h h1 : H} {v : Value} (hh : f39 rn k v0 h = some (v, h1)) (hp : plainO v = false) : rn 39 #[v0] h = some (v, h1) := by rw [t39 hh, trunc_not hp]

noncomputable def f40 (rec : Rec) (_k : Nat) (v0 : Value) (h0 : H) : Option (Value × H) :=
  bx h0 24 v0 fun h1 =>
  ld Try.prog h1 24 (nx h0) 0 fun v1 =>
  calls rec h1 79 [v1] fun v2 h2 =>
  len v2 fun n0 =>
  six v2 (sub .i64 n0 1) 1 fun b0 b1 =>
  ld Try.prog h2 25 b0 b1 fun v3 =>
  some (v3, h2)

theorem e40 (rec : Rec) (k : Nat) (v0 : Value) (h : H) : bodyT Try.prog E0 SC (XC Try.prog rec k) 40 (Value × H) [.opq v0] h (fun v h => some (v, h)) = f40 rec k v0 h := by kernel_rfl

theorem t40 {k : Nat} {v0 : Value} {h h1 : H} {v : Value} (hh : f40 rn k v0 h = some (v, h1)) : rn 40 #[v0] h = some (v, trunc Try.prog h h1 v) :=
  run_of_bodyT (args := [.opq v0]) rfl ((e40 _ _ _ _).trans hh)

theorem x40 {k : Nat} {v0 : Value} {h h1 : H} {v : Value} (hh : f40 rn k v0 h = some (v, h1)) (hp : plainO v = false) : rn 40 #[v0] h = some (v, h1) := by rw [t40 hh, trunc_not hp]

noncomputable def f41_l1 (_rec : Rec) (_k : Nat) (v2 : Value) (n1 : Int) (ws0 : List Value) (h3 : H) : Option (Ex × List Value × H) :=
  asI .i64 (gv ws0 0) fun n2 =>
  ifB (lt n2 n1) (
    asK (gv ws0 0) fun n3 =>
    nn n3 (
      asK (gv ws0 0) fun n4 =>
      six v2 n4 1 fun b0 b1 =>
      st Try.prog h3 3 b0 b1 (.int .i64 (shl .i64 1 n3)) fun h4 =>
      asI .i64 (gv ws0 0) fun n5 =>
      out .normal [(.int .i64 (add .i64 n5 1))] h4)) (
    out (.exit 0) [gv ws0 0] h3)

noncomputable def f41_l2 (_rec : Rec) (_k : Nat) (v2 : Value) (v3 : Value) (n6 : Int) (ws2 : List Value) (h6 : H) : Option (Ex × List Value × H) :=
  asI .i64 (gv ws2 1) fun n7 =>
  ifB (lt n7 n6) (
    asK (gv ws2 1) fun n8 =>
    six v3 n8 3 fun b2 b3 =>
    ld Try.prog h6 59 b2 b3 fun v4 =>
    al h6 59 [(.int .i64 0), (.int .i64 0), (.int .i64 0)] fun h7 =>
    st Try.prog h7 59 (nx h6) 0 v4 fun h8 =>
    ld Try.prog h8 3 (nx h6) 0 fun v5 =>
    asI .i64 v5 fun n9 =>
    six v2 n9 1 fun b4 b5 =>
    ld Try.prog h8 3 b4 b5 fun v6 =>
    asI .i64 v6 fun n10 =>
    ld Try.prog h8 3 (nx h6) (off 0 1) fun v7 =>
    asI .i64 v7 fun n11 =>
    six v2 n11 1 fun b6 b7 =>
    ld Try.prog h8 3 b6 b7 fun v8 =>
    asI .i64 v8 fun n12 =>
    ld Try.prog h8 3 (nx h6) 0 fun v9 =>
    asI .i64 v9 fun n13 =>
    six v2 n13 1 fun b8 b9 =>
    ld Try.prog h8 3 b8 b9 fun v10 =>
    asI .i64 v10 fun n14 =>
    ifB (eq n14 (or .i64 n10 n12)) (
      ld Try.prog h8 3 (nx h6) (off 0 1) fun v11 =>
      asI .i64 v11 fun n15 =>
      six v2 n15 1 fun b10 b11 =>
      ld Try.prog h8 3 b10 b11 fun v12 =>
      asI .i64 v12 fun n16 =>
      ifB (eq n16 (or .i64 n10 n12)) (
        bls Try.prog h8 25 1 [(0, gv ws2 1)] fun v13 h9 =>
        app Try.prog h9 25 25 (gv ws2 0) v13 fun v14 h10 =>
        ld Try.prog h10 3 (nx h6) 0 fun v15 =>
        asI .i64 v15 fun n17 =>
        ld Try.prog h10 3 (nx h6) (off 0 1) fun v16 =>
        asI .i64 v16 fun n18 =>
        six v2 n17 1 fun b12 b13 =>
        st Try.prog h10 3 b12 b13 (.int .i64 (or .i64 n10 n12)) fun h11 =>
        ck (fre (nx h6) (nx h10) (off 0 1) 1 b12 b13 1) (
          six v2 n18 1 fun b14 b15 =>
          st Try.prog h11 3 b14 b15 (.int .i64 (or .i64 n10 n12)) fun h12 =>
          asI .i64 (gv ws2 1) fun n19 =>
          out .normal [v14, (.int .i64 (add .i64 n19 1))] h12)) (
        ld Try.prog h8 3 (nx h6) 0 fun v17 =>
        asI .i64 v17 fun n20 =>
        ld Try.prog h8 3 (nx h6) (off 0 1) fun v18 =>
        asI .i64 v18 fun n21 =>
        six v2 n20 1 fun b16 b17 =>
        st Try.prog h8 3 b16 b17 (.int .i64 (or .i64 n10 n12)) fun h13 =>
        ck (fre (nx h6) (nx h8) (off 0 1) 1 b16 b17 1) (
          six v2 n21 1 fun b18 b19 =>
          st Try.prog h13 3 b18 b19 (.int .i64 (or .i64 n10 n12)) fun h14 =>
          asI .i64 (gv ws2 1) fun n22 =>
          out .normal [gv ws2 0, (.int .i64 (add .i64 n22 1))] h14))) (
      ld Try.prog h8 3 (nx h6) 0 fun v19 =>
      asI .i64 v19 fun n23 =>
      ld Try.prog h8 3 (nx h6) (off 0 1) fun v20 =>
      asI .i64 v20 fun n24 =>
      six v2 n23 1 fun b20 b21 =>
      st Try.prog h8 3 b20 b21 (.int .i64 (or .i64 n10 n12)) fun h15 =>
      ck (fre (nx h6) (nx h8) (off 0 1) 1 b20 b21 1) (
        six v2 n24 1 fun b22 b23 =>
        st Try.prog h15 3 b22 b23 (.int .i64 (or .i64 n10 n12)) fun h16 =>
        asI .i64 (gv ws2 1) fun n25 =>
        out .normal [gv ws2 0, (.int .i64 (add .i64 n25 1))] h16))) (
    out (.exit 2) [gv ws2 0, gv ws2 1] h6)

noncomputable def f41 (rec : Rec) (k : Nat) (v0 : Value) (h0 : H) : Option (Value × H) :=
  bx h0 24 v0 fun h1 =>
  ld Try.prog h1 3 (nx h0) 0 fun v1 =>
  asI .i64 v1 fun n0 =>
  mks Try.prog h1 25 n0 n0 fun v2 h2 =>
  len v2 fun n1 =>
  lp k (f41_l1 rec k v2 n1) [(.int .i64 0)] h2 fun e0 _ h5 =>
  onE e0 0 (
    ld Try.prog h5 22 (nx h0) (off 0 1) fun v3 =>
    len v3 fun n6 =>
    lp k (f41_l2 rec k v2 v3 n6) [(.slice none 0 0), (.int .i64 0)] h5 fun e1 ws3 h17 =>
    onE e1 2 (
      some (gv ws3 0, h17)) (
      none)) (
    none)

theorem e41 (rec : Rec) (k : Nat) (v0 : Value) (h : H) : bodyT Try.prog E0 SC (XC Try.prog rec k) 41 (Value × H) [.opq v0] h (fun v h => some (v, h)) = f41 rec k v0 h := by kernel_rfl

theorem t41 {k : Nat} {v0 : Value} {h h1 : H} {v : Value} (hh : f41 rn k v0 h = some (v, h1)) : rn 41 #[v0] h = some (v, trunc Try.prog h h1 v) :=
  run_of_bodyT (args := [.opq v0]) rfl ((e41 _ _ _ _).trans hh)

theorem x41 {k : Nat} {v0 : Value} {h h1 : H} {v : Value} (hh : f41 rn k v0 h = some (v, h1)) (hp : plainO v = false) : rn 41 #[v0] h = some (v, h1) := by rw [t41 hh, trunc_not hp]

noncomputable def f42 (_rec : Rec) (_k : Nat) (v0 : Value) (n0 : Int) (h0 : H) : Option (Value × H) :=
  bx h0 24 v0 fun h1 =>
  ifB (le 0 n0) (
    ld Try.prog h1 3 (nx h0) 0 fun v1 =>
    asI .i64 v1 fun n1 =>
    some ((.bool (lt n0 n1)), h1)) (
    some ((.bool false), h1))

theorem e42 (rec : Rec) (k : Nat) (v0 : Value) (n0 : Int) (h : H) : bodyT Try.prog E0 SC (XC Try.prog rec k) 42 (Value × H) [.opq v0, .int .i64 n0] h (fun v h => some (v, h)) = f42 rec k v0 n0 h := by kernel_rfl

theorem t42 {k : Nat} {v0 : Value} {n0 : Int} {h h1 : H} {v : Value} (hh : f42 rn k v0 n0 h = some (v, h1)) : rn 42 #[v0, .int .i64 n0] h = some (v, trunc Try.prog h h1 v) :=
  run_of_bodyT (args := [.opq v0, .int .i64 n0]) rfl ((e42 _ _ _ _ _).trans hh)

theorem p42 {k : Nat} {v0 : Value} {n0 : Int} {h h1 : H} {v : Value} (hh : f42 rn k v0 n0 h = some (v, h1)) (hp : plainO v = true) (x : Ext h h1) : rn 42 #[v0, .int .i64 n0] h = some (v, h) := by rw [t42 hh, trunc_pure hp x]

noncomputable def f43_l2 (_rec : Rec) (_k : Nat) (n0 : Int) (v3 : Value) (n4 : Int) (ws1 : List Value) (h4 : H) : Option (Ex × List Value × H) :=
  asI .i64 (gv ws1 1) fun n5 =>
  ifB (lt n5 n4) (
    asK (gv ws1 1) fun n6 =>
    six v3 n6 1 fun b2 b3 =>
    ld Try.prog h4 3 b2 b3 fun v4 =>
    asI .i64 v4 fun n7 =>
    nn n0 (
      asK (gv ws1 1) fun n8 =>
      nn n8 (
        asI .i64 (gv ws1 0) fun n9 =>
        asI .i64 (gv ws1 1) fun n10 =>
        out .normal [(.int .i64 (or .i64 n9 (shl .i64 (and .i64 (shr .i64 n7 n0) 1) n8))), (.int .i64 (add .i64 n10 1))] h4))) (
    out (.exit 2) [gv ws1 0, gv ws1 1] h4)

noncomputable def f43_l1 (rec : Rec) (k : Nat) (n0 : Int) (v2 : Value) (n1 : Int) (ws0 : List Value) (h3 : H) : Option (Ex × List Value × H) :=
  asI .i64 (gv ws0 1) fun n2 =>
  ifB (lt n2 n1) (
    asK (gv ws0 1) fun n3 =>
    six v2 n3 1 fun b0 b1 =>
    ld Try.prog h3 25 b0 b1 fun v3 =>
    len v3 fun n4 =>
    lp k (f43_l2 rec k n0 v3 n4) [(.int .i64 0), (.int .i64 0)] h3 fun e0 ws2 h5 =>
    onE e0 2 (
      bls Try.prog h5 25 1 [(0, gv ws2 0)] fun v5 h6 =>
      app Try.prog h6 25 25 (gv ws0 0) v5 fun v6 h7 =>
      asI .i64 (gv ws0 1) fun n11 =>
      out .normal [v6, (.int .i64 (add .i64 n11 1))] h7) (
      none)) (
    out (.exit 0) [gv ws0 0, gv ws0 1] h3)

noncomputable def f43 (rec : Rec) (k : Nat) (v0 : Value) (n0 : Int) (h0 : H) : Option (Value × H) :=
  bx h0 24 v0 fun h1 =>
  ld Try.prog h1 24 (nx h0) 0 fun v1 =>
  calls rec h1 79 [v1] fun v2 h2 =>
  len v2 fun n1 =>
  lp k (f43_l1 rec k n0 v2 n1) [(.slice none 0 0), (.int .i64 0)] h2 fun e1 ws3 h8 =>
  onE e1 0 (
    some (gv ws3 0, h8)) (
    none)

theorem e43 (rec : Rec) (k : Nat) (v0 : Value) (n0 : Int) (h : H) : bodyT Try.prog E0 SC (XC Try.prog rec k) 43 (Value × H) [.opq v0, .int .i64 n0] h (fun v h => some (v, h)) = f43 rec k v0 n0 h := by kernel_rfl

theorem t43 {k : Nat} {v0 : Value} {n0 : Int} {h h1 : H} {v : Value} (hh : f43 rn k v0 n0 h = some (v, h1)) : rn 43 #[v0, .int .i64 n0] h = some (v, trunc Try.prog h h1 v) :=
  run_of_bodyT (args := [.opq v0, .int .i64 n0]) rfl ((e43 _ _ _ _ _).trans hh)

theorem x43 {k : Nat} {v0 : Value} {n0 : Int} {h h1 : H} {v : Value} (hh : f43 rn k v0 n0 h = some (v, h1)) (hp : plainO v = false) : rn 43 #[v0, .int .i64 n0] h = some (v, h1) := by rw [t43 hh, trunc_not hp]

noncomputable def f45 (rec : Rec) (_k : Nat) (v0 : Value) (n0 : Int) (h0 : H) : Option (Value × H) :=
  bx h0 31 v0 fun h1 =>
  ld Try.prog h1 31 (nx h0) 0 fun v1 =>
  calls rec h1 71 [v1] fun v2 h2 =>
  asB v2 fun q0 =>
  ifB (not q0) (
    some ((.tuple #[(.slice none 0 0), (.int .i64 2)]), h2)) (
    ld Try.prog h2 31 (nx h0) 0 fun v3 =>
    calls rec h2 72 [v3, (.int .i64 n0)] fun v4 h3 =>
    asB v4 fun q1 =>
    ifB (not q1) (
      some ((.tuple #[(.slice none 0 0), (.int .i64 2)]), h3)) (
      ld Try.prog h3 31 (nx h0) 0 fun v5 =>
      calls rec h3 81 [v5, (.int .i64 n0), (.int .i64 0)] fun v6 h4 =>
      some ((.tuple #[v6, (.int .i64 0)]), h4)))

theorem e45 (rec : Rec) (k : Nat) (v0 : Value) (n0 : Int) (h : H) : bodyT Try.prog E0 SC (XC Try.prog rec k) 45 (Value × H) [.opq v0, .int .i64 n0] h (fun v h => some (v, h)) = f45 rec k v0 n0 h := by kernel_rfl

theorem t45 {k : Nat} {v0 : Value} {n0 : Int} {h h1 : H} {v : Value} (hh : f45 rn k v0 n0 h = some (v, h1)) : rn 45 #[v0, .int .i64 n0] h = some (v, trunc Try.prog h h1 v) :=
  run_of_bodyT (args := [.opq v0, .int .i64 n0]) rfl ((e45 _ _ _ _ _).trans hh)

theorem x45 {k : Nat} {v0 : Value} {n0 : Int} {h h1 : H} {v : Value} (hh : f45 rn k v0 n0 h = some (v, h1)) (hp : plainO v = false) : rn 45 #[v0, .int .i64 n0] h = some (v, h1) := by rw [t45 hh, trunc_not hp]

end Go.AM

end

section

/- The staged forms of functions 5, 30, 31, 32, 33, 71, 72, 73, 74, 75, 76, 77, 78, 79, 89, 99, 100, 105, and what calls of these answer. -/
namespace Go.AM
open Go.Proofs
noncomputable def f5 (rec : Rec) (_k : Nat) (n0 : Int) (h0 : H) : Option (Value × H) :=
  calls rec h0 30 [(.int .i64 n0)] fun v0 h1 =>
  ext v0 0 fun v1 =>
  ext v0 1 fun v2 =>
  asI .i64 v2 fun n1 =>
  al h1 31 [(.int .i64 0), (.slice none 0 0)] fun h2 =>
  st Try.prog h2 31 (nx h1) 0 v1 fun h3 =>
  calls rec h3 31 [(.int .i64 n0)] fun v3 h4 =>
  ext v3 0 fun v4 =>
  asI .i64 v4 fun n2 =>
  ext v3 1 fun v5 =>
  asI .i64 v5 fun n3 =>
  ifB (lt n0 1) (
    ld Try.prog h4 31 (nx h1) 0 fun v6 =>
    calls rec h4 32 [v6] fun v7 h5 =>
    asB v7 fun q0 =>
    ifB q0 (
      ifB (eq n2 0) (
        ifB (eq n1 2) (
          ifB (eq n3 2) (
            calls rec h5 22 [] fun v8 h6 =>
            asB v8 fun q1 =>
            some ((.bool q1), h6)) (
            some ((.bool false), h5))) (
          some ((.bool false), h5))) (
        some ((.bool false), h5))) (
      some ((.bool false), h5))) (
    ifB (lt 7 n0) (
      ld Try.prog h4 31 (nx h1) 0 fun v9 =>
      calls rec h4 32 [v9] fun v10 h7 =>
      asB v10 fun q2 =>
      ifB q2 (
        ifB (eq n2 0) (
          ifB (eq n1 2) (
            ifB (eq n3 2) (
              calls rec h7 22 [] fun v11 h8 =>
              asB v11 fun q3 =>
              some ((.bool q3), h8)) (
              some ((.bool false), h7))) (
            some ((.bool false), h7))) (
          some ((.bool false), h7))) (
        some ((.bool false), h7))) (
      ld Try.prog h4 31 (nx h1) 0 fun v12 =>
      calls rec h4 33 [v12] fun v13 h9 =>
      al h9 24 [(.int .i64 0), (.slice none 0 0)] fun h10 =>
      st Try.prog h10 24 (nx h9) 0 v13 fun h11 =>
      ifB (eq n1 0) (
        ifB (eq n3 0) (
          calls rec h11 34 [(.int .i64 n0)] fun v14 h12 =>
          asI .i64 v14 fun n4 =>
          ifB (eq n2 n4) (
            ld Try.prog h12 24 (nx h9) 0 fun v15 =>
            calls rec h12 35 [v15] fun v16 h13 =>
            asB v16 fun q4 =>
            ifB q4 (
              ld Try.prog h13 3 (nx h9) 0 fun v17 =>
              asI .i64 v17 fun n5 =>
              ifB (eq n5 n0) (
                ld Try.prog h13 24 (nx h9) 0 fun v18 =>
                calls rec h13 36 [v18] fun v19 h14 =>
                asB v19 fun q5 =>
                ifB q5 (
                  ld Try.prog h14 22 (nx h9) (off 0 1) fun v20 =>
                  len v20 fun n6 =>
                  ifB (eq n6 n2) (
                    calls rec h14 22 [] fun v21 h15 =>
                    asB v21 fun q6 =>
                    some ((.bool q6), h15)) (
                    some ((.bool false), h14))) (
                  some ((.bool false), h14))) (
                some ((.bool false), h13))) (
              some ((.bool false), h13))) (
            some ((.bool false), h12))) (
          some ((.bool false), h11))) (
        some ((.bool false), h11))))

theorem e5 (rec : Rec) (k : Nat) (n0 : Int) (h : H) : bodyT Try.prog E0 SC (XC Try.prog rec k) 5 (Value × H) [.int .i64 n0] h (fun v h => some (v, h)) = f5 rec k n0 h := by kernel_rfl

theorem t5 {k : Nat} {n0 : Int} {h h1 : H} {v : Value} (hh : f5 rn k n0 h = some (v, h1)) : rn 5 #[.int .i64 n0] h = some (v, trunc Try.prog h h1 v) :=
  run_of_bodyT (args := [.int .i64 n0]) rfl ((e5 _ _ _ _).trans hh)

theorem p5 {k : Nat} {n0 : Int} {h h1 : H} {v : Value} (hh : f5 rn k n0 h = some (v, h1)) (hp : plainO v = true) (x : Ext h h1) : rn 5 #[.int .i64 n0] h = some (v, h) := by rw [t5 hh, trunc_pure hp x]

theorem x5 {k : Nat} {n0 : Int} {h h1 : H} {v : Value} (hh : f5 rn k n0 h = some (v, h1)) (hp : plainO v = false) : rn 5 #[.int .i64 n0] h = some (v, h1) := by rw [t5 hh, trunc_not hp]

noncomputable def f30 (rec : Rec) (_k : Nat) (n0 : Int) (h0 : H) : Option (Value × H) :=
  al h0 31 [(.int .i64 0), (.slice none 0 0)] fun h1 =>
  ifB (lt n0 1) (
    bld Try.prog 31 [] fun v0 =>
    st Try.prog h1 31 (nx h0) 0 v0 fun h2 =>
    ld Try.prog h2 31 (nx h0) 0 fun v1 =>
    some ((.tuple #[v1, (.int .i64 2)]), h2)) (
    ifB (lt 7 n0) (
      bld Try.prog 31 [] fun v2 =>
      st Try.prog h1 31 (nx h0) 0 v2 fun h3 =>
      ld Try.prog h3 31 (nx h0) 0 fun v3 =>
      some ((.tuple #[v3, (.int .i64 2)]), h3)) (
      calls rec h1 76 [(.int .i64 n0)] fun v4 h4 =>
      st Try.prog h4 31 (nx h0) 0 v4 fun h5 =>
      ld Try.prog h5 31 (nx h0) 0 fun v5 =>
      some ((.tuple #[v5, (.int .i64 0)]), h5)))

theorem e30 (rec : Rec) (k : Nat) (n0 : Int) (h : H) : bodyT Try.prog E0 SC (XC Try.prog rec k) 30 (Value × H) [.int .i64 n0] h (fun v h => some (v, h)) = f30 rec k n0 h := by kernel_rfl

theorem t30 {k : Nat} {n0 : Int} {h h1 : H} {v : Value} (hh : f30 rn k n0 h = some (v, h1)) : rn 30 #[.int .i64 n0] h = some (v, trunc Try.prog h h1 v) :=
  run_of_bodyT (args := [.int .i64 n0]) rfl ((e30 _ _ _ _).trans hh)

theorem x30 {k : Nat} {n0 : Int} {h h1 : H} {v : Value} (hh : f30 rn k n0 h = some (v, h1)) (hp : plainO v = false) : rn 30 #[.int .i64 n0] h = some (v, h1) := by rw [t30 hh, trunc_not hp]

noncomputable def f31 (rec : Rec) (_k : Nat) (n0 : Int) (h0 : H) : Option (Value × H) :=
  ifB (lt n0 1) (
    some ((.tuple #[(.int .i64 0), (.int .i64 2)]), h0)) (
    ifB (lt 7 n0) (
      some ((.tuple #[(.int .i64 0), (.int .i64 2)]), h0)) (
      calls rec h0 76 [(.int .i64 n0)] fun v0 h1 =>
      fld Try.prog 31 v0 1 fun v1 =>
      len v1 fun n1 =>
      some ((.tuple #[(.int .i64 n1), (.int .i64 0)]), h1)))

theorem e31 (rec : Rec) (k : Nat) (n0 : Int) (h : H) : bodyT Try.prog E0 SC (XC Try.prog rec k) 31 (Value × H) [.int .i64 n0] h (fun v h => some (v, h)) = f31 rec k n0 h := by kernel_rfl

theorem t31 {k : Nat} {n0 : Int} {h h1 : H} {v : Value} (hh : f31 rn k n0 h = some (v, h1)) : rn 31 #[.int .i64 n0] h = some (v, trunc Try.prog h h1 v) :=
  run_of_bodyT (args := [.int .i64 n0]) rfl ((e31 _ _ _ _).trans hh)

theorem p31 {k : Nat} {n0 : Int} {h h1 : H} {v : Value} (hh : f31 rn k n0 h = some (v, h1)) (hp : plainO v = true) (x : Ext h h1) : rn 31 #[.int .i64 n0] h = some (v, h) := by rw [t31 hh, trunc_pure hp x]

noncomputable def f32 (_rec : Rec) (_k : Nat) (v0 : Value) (h0 : H) : Option (Value × H) :=
  bx h0 31 v0 fun h1 =>
  ld Try.prog h1 3 (nx h0) 0 fun v1 =>
  asI .i64 v1 fun n0 =>
  ifB (eq n0 0) (
    ld Try.prog h1 29 (nx h0) (off 0 1) fun v2 =>
    len v2 fun n1 =>
    some ((.bool (eq n1 0)), h1)) (
    some ((.bool false), h1))

theorem e32 (rec : Rec) (k : Nat) (v0 : Value) (h : H) : bodyT Try.prog E0 SC (XC Try.prog rec k) 32 (Value × H) [.opq v0] h (fun v h => some (v, h)) = f32 rec k v0 h := by kernel_rfl

theorem t32 {k : Nat} {v0 : Value} {h h1 : H} {v : Value} (hh : f32 rn k v0 h = some (v, h1)) : rn 32 #[v0] h = some (v, trunc Try.prog h h1 v) :=
  run_of_bodyT (args := [.opq v0]) rfl ((e32 _ _ _ _).trans hh)

theorem p32 {k : Nat} {v0 : Value} {h h1 : H} {v : Value} (hh : f32 rn k v0 h = some (v, h1)) (hp : plainO v = true) (x : Ext h h1) : rn 32 #[v0] h = some (v, h) := by rw [t32 hh, trunc_pure hp x]

noncomputable def f33_l1 (_rec : Rec) (_k : Nat) (h2 : H) (v3 : Value) (n1 : Int) (ws0 : List Value) (h5 : H) : Option (Ex × List Value × H) :=
  asI .i64 (gv ws0 0) fun n2 =>
  ifB (lt n2 n1) (
    asK (gv ws0 0) fun n3 =>
    six v3 n3 3 fun b0 b1 =>
    ld Try.prog h5 56 b0 b1 fun v4 =>
    al h5 56 [(.int .i64 0), (.int .i64 0), (.int .i64 0)] fun h6 =>
    st Try.prog h6 56 (nx h5) 0 v4 fun h7 =>
    ld Try.prog h7 22 (nx h2) (off 0 1) fun v5 =>
    ld Try.prog h7 3 (nx h5) 0 fun v6 =>
    asI .i64 v6 fun n4 =>
    ld Try.prog h7 3 (nx h5) (off 0 1) fun v7 =>
    asI .i64 v7 fun n5 =>
    ld Try.prog h7 3 (nx h5) (off 0 2) fun v8 =>
    asI .i64 v8 fun n6 =>
    bld Try.prog 59 [(0, (.int .i64 n4)), (1, (.int .i64 n5)), (2, (.int .i64 n6))] fun v9 =>
    bls Try.prog h7 22 1 [(0, v9)] fun v10 h8 =>
    app Try.prog h8 22 22 v5 v10 fun v11 h9 =>
    st Try.prog h9 22 (nx h2) (off 0 1) v11 fun h10 =>
    asI .i64 (gv ws0 0) fun n7 =>
    out .normal [(.int .i64 (add .i64 n7 1))] h10) (
    out (.exit 0) [gv ws0 0] h5)

noncomputable def f33 (rec : Rec) (k : Nat) (v0 : Value) (h0 : H) : Option (Value × H) :=
  bx h0 31 v0 fun h1 =>
  al h1 24 [(.int .i64 0), (.slice none 0 0)] fun h2 =>
  ld Try.prog h2 3 (nx h0) 0 fun v1 =>
  asI .i64 v1 fun n0 =>
  bld Try.prog 24 [(0, (.int .i64 n0))] fun v2 =>
  al h2 24 [(.int .i64 0), (.slice none 0 0)] fun h3 =>
  st Try.prog h3 24 (nx h2) 0 v2 fun h4 =>
  ld Try.prog h4 29 (nx h0) (off 0 1) fun v3 =>
  len v3 fun n1 =>
  lp k (f33_l1 rec k h2 v3 n1) [(.int .i64 0)] h4 fun e0 _ h11 =>
  onE e0 0 (
    ld Try.prog h11 24 (nx h2) 0 fun v12 =>
    st Try.prog h11 24 (nx h1) 0 v12 fun h12 =>
    ld Try.prog h12 24 (nx h1) 0 fun v13 =>
    some (v13, h12)) (
    none)

theorem e33 (rec : Rec) (k : Nat) (v0 : Value) (h : H) : bodyT Try.prog E0 SC (XC Try.prog rec k) 33 (Value × H) [.opq v0] h (fun v h => some (v, h)) = f33 rec k v0 h := by kernel_rfl

theorem t33 {k : Nat} {v0 : Value} {h h1 : H} {v : Value} (hh : f33 rn k v0 h = some (v, h1)) : rn 33 #[v0] h = some (v, truncB true Try.prog h h1 v) :=
  run_of_bodyTK (args := [.opq v0]) rfl rfl ((e33 _ _ _ _).trans hh)

theorem x33 {k : Nat} {v0 : Value} {h h1 : H} {v : Value} (hh : f33 rn k v0 h = some (v, h1)) (hp : plainO v = false) (x : Ext h h1) : ∃ h2, rn 33 #[v0] h = some (v, h2) ∧ Sm h1 h2 ∧ Exw h h2 := ⟨_, t33 hh, truncB_not hp x⟩

noncomputable def f71_l1 (rec : Rec) (_k : Nat) (h0 : H) (v4 : Value) (n3 : Int) (ws0 : List Value) (h2 : H) : Option (Ex × List Value × H) :=
  asI .i64 (gv ws0 1) fun n4 =>
  ifB (lt n4 n3) (
    asK (gv ws0 1) fun n5 =>
    six v4 n5 3 fun b0 b1 =>
    ld Try.prog h2 56 b0 b1 fun v5 =>
    al h2 56 [(.int .i64 0), (.int .i64 0), (.int .i64 0)] fun h3 =>
    st Try.prog h3 56 (nx h2) 0 v5 fun h4 =>
    ld Try.prog h4 31 (nx h0) 0 fun v6 =>
    ld Try.prog h4 3 (nx h2) 0 fun v7 =>
    asI .i64 v7 fun n6 =>
    calls rec h4 72 [v6, (.int .i64 n6)] fun v8 h5 =>
    asB v8 fun q0 =>
    ifB (not q0) (
      out .ret [(.bool false), gv ws0 1] h5) (
      ld Try.prog h5 31 (nx h0) 0 fun v9 =>
      ld Try.prog h5 3 (nx h2) (off 0 1) fun v10 =>
      asI .i64 v10 fun n7 =>
      calls rec h5 72 [v9, (.int .i64 n7)] fun v11 h6 =>
      asB v11 fun q1 =>
      ifB (not q1) (
        out .ret [(.bool false), gv ws0 1] h6) (
        ld Try.prog h6 3 (nx h2) 0 fun v12 =>
        asI .i64 v12 fun n8 =>
        ld Try.prog h6 3 (nx h2) (off 0 1) fun v13 =>
        asI .i64 v13 fun n9 =>
        ifB (eq n8 n9) (
          out .ret [(.bool false), gv ws0 1] h6) (
          ld Try.prog h6 3 (nx h2) (off 0 2) fun v14 =>
          asI .i64 v14 fun n10 =>
          ifB (lt n10 1) (
            out .ret [(.bool false), gv ws0 1] h6) (
            ld Try.prog h6 3 (nx h2) (off 0 2) fun v15 =>
            asI .i64 v15 fun n11 =>
            ifB (lt 30 n11) (
              out .ret [(.bool false), gv ws0 1] h6) (
              asI .i64 (gv ws0 1) fun n12 =>
              ifB (lt 0 n12) (
                ld Try.prog h6 29 (nx h0) (off 0 1) fun v16 =>
                asI .i64 (gv ws0 1) fun n13 =>
                six v16 (sub .i64 n13 1) 3 fun b2 b3 =>
                ld Try.prog h6 3 b2 (off b3 2) fun v17 =>
                asI .i64 v17 fun n14 =>
                ld Try.prog h6 3 (nx h2) (off 0 2) fun v18 =>
                asI .i64 v18 fun n15 =>
                ifB (lt n15 n14) (
                  out .ret [(.bool false), gv ws0 1] h6) (
                  ld Try.prog h6 29 (nx h0) (off 0 1) fun v19 =>
                  sli Try.prog h6 29 v19 none (some (gv ws0 1)) none fun v20 =>
                  calls rec h6 89 [v20, (.func (.func 99) #[] #[(pt (nx h2) 0)])] fun v21 h7 =>
                  asB v21 fun q2 =>
                  ifB q2 (
                    out .ret [(.bool false), gv ws0 1] h7) (
                    asI .i64 (gv ws0 1) fun n16 =>
                    out .normal [gv ws0 0, (.int .i64 (add .i64 n16 1))] h7))) (
                ld Try.prog h6 29 (nx h0) (off 0 1) fun v22 =>
                sli Try.prog h6 29 v22 none (some (gv ws0 1)) none fun v23 =>
                calls rec h6 89 [v23, (.func (.func 99) #[] #[(pt (nx h2) 0)])] fun v24 h8 =>
                asB v24 fun q3 =>
                ifB q3 (
                  out .ret [(.bool false), gv ws0 1] h8) (
                  asI .i64 (gv ws0 1) fun n17 =>
                  out .normal [gv ws0 0, (.int .i64 (add .i64 n17 1))] h8)))))))) (
    out (.exit 0) [gv ws0 0, gv ws0 1] h2)

noncomputable def f71 (rec : Rec) (k : Nat) (v0 : Value) (h0 : H) : Option (Value × H) :=
  bx h0 31 v0 fun h1 =>
  ld Try.prog h1 3 (nx h0) 0 fun v1 =>
  asI .i64 v1 fun n0 =>
  ifB (lt n0 1) (
    some ((.bool false), h1)) (
    ld Try.prog h1 3 (nx h0) 0 fun v2 =>
    asI .i64 v2 fun n1 =>
    ifB (lt 7 n1) (
      some ((.bool false), h1)) (
      ld Try.prog h1 29 (nx h0) (off 0 1) fun v3 =>
      len v3 fun n2 =>
      ifB (lt 24 n2) (
        some ((.bool false), h1)) (
        ld Try.prog h1 29 (nx h0) (off 0 1) fun v4 =>
        len v4 fun n3 =>
        lp k (f71_l1 rec k h0 v4 n3) [(.bool false), (.int .i64 0)] h1 fun e0 ws1 h9 =>
        onE e0 0 (
          some ((.bool true), h9)) (
          onR e0 (
            some (gv ws1 0, h9))))))

theorem e71 (rec : Rec) (k : Nat) (v0 : Value) (h : H) : bodyT Try.prog E0 SC (XC Try.prog rec k) 71 (Value × H) [.opq v0] h (fun v h => some (v, h)) = f71 rec k v0 h := by kernel_rfl

theorem t71 {k : Nat} {v0 : Value} {h h1 : H} {v : Value} (hh : f71 rn k v0 h = some (v, h1)) : rn 71 #[v0] h = some (v, trunc Try.prog h h1 v) :=
  run_of_bodyT (args := [.opq v0]) rfl ((e71 _ _ _ _).trans hh)

theorem p71 {k : Nat} {v0 : Value} {h h1 : H} {v : Value} (hh : f71 rn k v0 h = some (v, h1)) (hp : plainO v = true) (x : Ext h h1) : rn 71 #[v0] h = some (v, h) := by rw [t71 hh, trunc_pure hp x]

noncomputable def f72 (_rec : Rec) (_k : Nat) (v0 : Value) (n0 : Int) (h0 : H) : Option (Value × H) :=
  bx h0 31 v0 fun h1 =>
  ifB (le 0 n0) (
    ld Try.prog h1 3 (nx h0) 0 fun v1 =>
    asI .i64 v1 fun n1 =>
    some ((.bool (lt n0 n1)), h1)) (
    some ((.bool false), h1))

theorem e72 (rec : Rec) (k : Nat) (v0 : Value) (n0 : Int) (h : H) : bodyT Try.prog E0 SC (XC Try.prog rec k) 72 (Value × H) [.opq v0, .int .i64 n0] h (fun v h => some (v, h)) = f72 rec k v0 n0 h := by kernel_rfl

theorem t72 {k : Nat} {v0 : Value} {n0 : Int} {h h1 : H} {v : Value} (hh : f72 rn k v0 n0 h = some (v, h1)) : rn 72 #[v0, .int .i64 n0] h = some (v, trunc Try.prog h h1 v) :=
  run_of_bodyT (args := [.opq v0, .int .i64 n0]) rfl ((e72 _ _ _ _ _).trans hh)

theorem p72 {k : Nat} {v0 : Value} {n0 : Int} {h h1 : H} {v : Value} (hh : f72 rn k v0 n0 h = some (v, h1)) (hp : plainO v = true) (x : Ext h h1) : rn 72 #[v0, .int .i64 n0] h = some (v, h) := by rw [t72 hh, trunc_pure hp x]

noncomputable def f73 (_rec : Rec) (_k : Nat) (v0 : Value) (n0 : Int) (h0 : H) : Option (Value × H) :=
  bx h0 56 v0 fun h1 =>
  ld Try.prog h1 3 (nx h0) 0 fun v1 =>
  asI .i64 v1 fun n1 =>
  ifB (eq n1 n0) (
    some ((.bool true), h1)) (
    ld Try.prog h1 3 (nx h0) (off 0 1) fun v2 =>
    asI .i64 v2 fun n2 =>
    some ((.bool (eq n2 n0)), h1))

theorem e73 (rec : Rec) (k : Nat) (v0 : Value) (n0 : Int) (h : H) : bodyT Try.prog E0 SC (XC Try.prog rec k) 73 (Value × H) [.opq v0, .int .i64 n0] h (fun v h => some (v, h)) = f73 rec k v0 n0 h := by kernel_rfl

theorem t73 {k : Nat} {v0 : Value} {n0 : Int} {h h1 : H} {v : Value} (hh : f73 rn k v0 n0 h = some (v, h1)) : rn 73 #[v0, .int .i64 n0] h = some (v, trunc Try.prog h h1 v) :=
  run_of_bodyT (args := [.opq v0, .int .i64 n0]) rfl ((e73 _ _ _ _ _).trans hh)

theorem p73 {k : Nat} {v0 : Value} {n0 : Int} {h h1 : H} {v : Value} (hh : f73 rn k v0 n0 h = some (v, h1)) (hp : plainO v = true) (x : Ext h h1) : rn 73 #[v0, .int .i64 n0] h = some (v, h) := by rw [t73 hh, trunc_pure hp x]

noncomputable def f74 (_rec : Rec) (_k : Nat) (v0 : Value) (n0 : Int) (h0 : H) : Option (Value × H) :=
  bx h0 56 v0 fun h1 =>
  ld Try.prog h1 3 (nx h0) 0 fun v1 =>
  asI .i64 v1 fun n1 =>
  ld Try.prog h1 3 (nx h0) (off 0 1) fun v2 =>
  asI .i64 v2 fun n2 =>
  some ((.int .i64 (sub .i64 (add .i64 n1 n2) n0)), h1)

theorem e74 (rec : Rec) (k : Nat) (v0 : Value) (n0 : Int) (h : H) : bodyT Try.prog E0 SC (XC Try.prog rec k) 74 (Value × H) [.opq v0, .int .i64 n0] h (fun v h => some (v, h)) = f74 rec k v0 n0 h := by kernel_rfl

theorem t74 {k : Nat} {v0 : Value} {n0 : Int} {h h1 : H} {v : Value} (hh : f74 rn k v0 n0 h = some (v, h1)) : rn 74 #[v0, .int .i64 n0] h = some (v, trunc Try.prog h h1 v) :=
  run_of_bodyT (args := [.opq v0, .int .i64 n0]) rfl ((e74 _ _ _ _ _).trans hh)

theorem p74 {k : Nat} {v0 : Value} {n0 : Int} {h h1 : H} {v : Value} (hh : f74 rn k v0 n0 h = some (v, h1)) (hp : plainO v = true) (x : Ext h h1) : rn 74 #[v0, .int .i64 n0] h = some (v, h) := by rw [t74 hh, trunc_pure hp x]

noncomputable def f75 (_rec : Rec) (_k : Nat) (v0 : Value) (h0 : H) : Option (Value × H) :=
  eqv Try.prog 25 v0 (.slice none 0 0) fun q0 =>
  ifB q0 (
    some ((.slice none 0 0), h0)) (
    bls Try.prog h0 25 0 [] fun v1 h1 =>
    app Try.prog h1 25 25 v1 v0 fun v2 h2 =>
    some (v2, h2))

theorem e75 (rec : Rec) (k : Nat) (v0 : Value) (h : H) : bodyT Try.prog E0 SC (XC Try.prog rec k) 75 (Value × H) [.opq v0] h (fun v h => some (v, h)) = f75 rec k v0 h := by kernel_rfl

theorem t75 {k : Nat} {v0 : Value} {h h1 : H} {v : Value} (hh : f75 rn k v0 h = some (v, h1)) : rn 75 #[v0] h = some (v, trunc Try.prog h h1 v) :=
  run_of_bodyT (args := [.opq v0]) rfl ((e75 _ _ _ _).trans hh)

theorem x75 {k : Nat} {v0 : Value} {h h1 : H} {v : Value} (hh : f75 rn k v0 h = some (v, h1)) (hp : plainO v = false) : rn 75 #[v0] h = some (v, h1) := by rw [t75 hh, trunc_not hp]

noncomputable def f76_l1 (rec : Rec) (_k : Nat) (n0 : Int) (h1 : H) (h3 : H) (ws0 : List Value) (h6 : H) : Option (Ex × List Value × H) :=
  asI .i64 (gv ws0 0) fun n1 =>
  ifB (lt n1 n0) (
    asI .i64 (gv ws0 0) fun n2 =>
    calls rec h6 100 [(.int .i64 (sub .i64 n2 1)), gv ws0 0, (pt (nx h3) 0), (pt (nx h1) 0)] fun _ h7 =>
    asI .i64 (gv ws0 0) fun n3 =>
    out .normal [(.int .i64 (add .i64 n3 1))] h7) (
    out (.exit 0) [gv ws0 0] h6)

noncomputable def f76_l2 (rec : Rec) (_k : Nat) (n0 : Int) (h1 : H) (h3 : H) (ws2 : List Value) (h12 : H) : Option (Ex × List Value × H) :=
  asI .i64 (gv ws2 0) fun n4 =>
  ifB (lt n4 n0) (
    calls rec h12 100 [(.int .i64 0), gv ws2 0, (pt (nx h3) 0), (pt (nx h1) 0)] fun _ h13 =>
    asI .i64 (gv ws2 0) fun n5 =>
    out .normal [(.int .i64 (add .i64 n5 1))] h13) (
    out (.exit 2) [gv ws2 0] h12)

noncomputable def f76_l3 (rec : Rec) (_k : Nat) (n0 : Int) (h1 : H) (h3 : H) (ws4 : List Value) (h19 : H) : Option (Ex × List Value × H) :=
  asI .i64 (gv ws4 0) fun n6 =>
  ifB (lt n6 n0) (
    calls rec h19 100 [(.int .i64 0), gv ws4 0, (pt (nx h3) 0), (pt (nx h1) 0)] fun _ h20 =>
    asI .i64 (gv ws4 0) fun n7 =>
    out .normal [(.int .i64 (add .i64 n7 1))] h20) (
    out (.exit 4) [gv ws4 0] h19)

noncomputable def f76 (rec : Rec) (k : Nat) (n0 : Int) (h0 : H) : Option (Value × H) :=
  al h0 31 [(.int .i64 0), (.slice none 0 0)] fun h1 =>
  bld Try.prog 31 [(0, (.int .i64 n0))] fun v0 =>
  al h1 31 [(.int .i64 0), (.slice none 0 0)] fun h2 =>
  st Try.prog h2 31 (nx h1) 0 v0 fun h3 =>
  al h3 3 [(.int .i64 0)] fun h4 =>
  st Try.prog h4 3 (nx h3) 0 (.int .i64 0) fun h5 =>
  ifB (lt n0 4) (
    lp k (f76_l1 rec k n0 h1 h3) [(.int .i64 1)] h5 fun e0 _ h8 =>
    onE e0 0 (
      ifB (eq n0 3) (
        calls rec h8 100 [(.int .i64 0), (.int .i64 1), (pt (nx h3) 0), (pt (nx h1) 0)] fun _ h9 =>
        ld Try.prog h9 31 (nx h1) 0 fun v3 =>
        st Try.prog h9 31 (nx h0) 0 v3 fun h10 =>
        ld Try.prog h10 31 (nx h0) 0 fun v4 =>
        some (v4, h10)) (
        ld Try.prog h8 31 (nx h1) 0 fun v5 =>
        st Try.prog h8 31 (nx h0) 0 v5 fun h11 =>
        ld Try.prog h11 31 (nx h0) 0 fun v6 =>
        some (v6, h11))) (
      none)) (
    lp k (f76_l2 rec k n0 h1 h3) [(.int .i64 4)] h5 fun e1 _ h14 =>
    onE e1 2 (
      calls rec h14 100 [(.int .i64 0), (.int .i64 1), (pt (nx h3) 0), (pt (nx h1) 0)] fun _ h15 =>
      calls rec h15 100 [(.int .i64 2), (.int .i64 3), (pt (nx h3) 0), (pt (nx h1) 0)] fun _ h16 =>
      calls rec h16 100 [(.int .i64 0), (.int .i64 2), (pt (nx h3) 0), (pt (nx h1) 0)] fun _ h17 =>
      calls rec h17 100 [(.int .i64 1), (.int .i64 3), (pt (nx h3) 0), (pt (nx h1) 0)] fun _ h18 =>
      lp k (f76_l3 rec k n0 h1 h3) [(.int .i64 4)] h18 fun e2 _ h21 =>
      onE e2 4 (
        ld Try.prog h21 31 (nx h1) 0 fun v13 =>
        st Try.prog h21 31 (nx h0) 0 v13 fun h22 =>
        ld Try.prog h22 31 (nx h0) 0 fun v14 =>
        some (v14, h22)) (
        none)) (
      none))

theorem e76 (rec : Rec) (k : Nat) (n0 : Int) (h : H) : bodyT Try.prog E0 SC (XC Try.prog rec k) 76 (Value × H) [.int .i64 n0] h (fun v h => some (v, h)) = f76 rec k n0 h := by kernel_rfl

theorem t76 {k : Nat} {n0 : Int} {h h1 : H} {v : Value} (hh : f76 rn k n0 h = some (v, h1)) : rn 76 #[.int .i64 n0] h = some (v, trunc Try.prog h h1 v) :=
  run_of_bodyT (args := [.int .i64 n0]) rfl ((e76 _ _ _ _).trans hh)

theorem x76 {k : Nat} {n0 : Int} {h h1 : H} {v : Value} (hh : f76 rn k n0 h = some (v, h1)) (hp : plainO v = false) : rn 76 #[.int .i64 n0] h = some (v, h1) := by rw [t76 hh, trunc_not hp]

noncomputable def f77_l1 (_rec : Rec) (_k : Nat) (n0 : Int) (ws0 : List Value) (h2 : H) : Option (Ex × List Value × H) :=
  asI .i64 (gv ws0 1) fun n1 =>
  ifB (lt n1 n0) (
    asK (gv ws0 1) fun n2 =>
    nn n2 (
      bls Try.prog h2 25 1 [(0, (.int .i64 (shl .i64 1 n2)))] fun v2 h3 =>
      app Try.prog h3 25 25 (gv ws0 0) v2 fun v3 h4 =>
      asI .i64 (gv ws0 1) fun n3 =>
      out .normal [v3, (.int .i64 (add .i64 n3 1))] h4)) (
    out (.exit 0) [gv ws0 0, gv ws0 1] h2)

noncomputable def f77 (rec : Rec) (k : Nat) (v0 : Value) (h0 : H) : Option (Value × H) :=
  bx h0 31 v0 fun h1 =>
  ld Try.prog h1 3 (nx h0) 0 fun v1 =>
  asI .i64 v1 fun n0 =>
  lp k (f77_l1 rec k n0) [(.slice none 0 0), (.int .i64 0)] h1 fun e0 ws1 h5 =>
  onE e0 0 (
    some (gv ws1 0, h5)) (
    none)

theorem e77 (rec : Rec) (k : Nat) (v0 : Value) (h : H) : bodyT Try.prog E0 SC (XC Try.prog rec k) 77 (Value × H) [.opq v0] h (fun v h => some (v, h)) = f77 rec k v0 h := by kernel_rfl

theorem t77 {k : Nat} {v0 : Value} {h h1 : H} {v : Value} (hh : f77 rn k v0 h = some (v, h1)) : rn 77 #[v0] h = some (v, trunc Try.prog h h1 v) :=
  run_of_bodyT (args := [.opq v0]) rfl ((e77 _ _ _ _).trans hh)

theorem x77 {k : Nat} {v0 : Value} {h h1 : H} {v : Value} (hh : f77 rn k v0 h = some (v, h1)) (hp : plainO v = false) : rn 77 #[v0] h = some (v, h1) := by rw [t77 hh, trunc_not hp]

noncomputable def f78 (_rec : Rec) (_k : Nat) (v0 : Value) (v1 : Value) (h0 : H) : Option (Value × H) :=
  bx h0 56 v1 fun h1 =>
  ld Try.prog h1 3 (nx h0) 0 fun v2 =>
  asI .i64 v2 fun n0 =>
  six v0 n0 1 fun b0 b1 =>
  ld Try.prog h1 3 b0 b1 fun v3 =>
  asI .i64 v3 fun n1 =>
  ld Try.prog h1 3 (nx h0) (off 0 1) fun v4 =>
  asI .i64 v4 fun n2 =>
  six v0 n2 1 fun b2 b3 =>
  ld Try.prog h1 3 b2 b3 fun v5 =>
  asI .i64 v5 fun n3 =>
  ld Try.prog h1 3 (nx h0) 0 fun v6 =>
  asI .i64 v6 fun n4 =>
  six v0 n4 1 fun b4 b5 =>
  ld Try.prog h1 3 b4 b5 fun v7 =>
  asI .i64 v7 fun n5 =>
  ifB (not (eq n5 (or .i64 n1 n3))) (
    ld Try.prog h1 3 (nx h0) 0 fun v8 =>
    asI .i64 v8 fun n6 =>
    ld Try.prog h1 3 (nx h0) (off 0 1) fun v9 =>
    asI .i64 v9 fun n7 =>
    six v0 n6 1 fun b6 b7 =>
    st Try.prog h1 3 b6 b7 (.int .i64 (or .i64 n1 n3)) fun h2 =>
    ck (fre (nx h0) (nx h1) (off 0 1) 1 b6 b7 1) (
      six v0 n7 1 fun b8 b9 =>
      st Try.prog h2 3 b8 b9 (.int .i64 (or .i64 n1 n3)) fun h3 =>
      some ((.bool true), h3))) (
    ld Try.prog h1 3 (nx h0) (off 0 1) fun v10 =>
    asI .i64 v10 fun n8 =>
    six v0 n8 1 fun b10 b11 =>
    ld Try.prog h1 3 b10 b11 fun v11 =>
    asI .i64 v11 fun n9 =>
    ld Try.prog h1 3 (nx h0) 0 fun v12 =>
    asI .i64 v12 fun n10 =>
    ld Try.prog h1 3 (nx h0) (off 0 1) fun v13 =>
    asI .i64 v13 fun n11 =>
    six v0 n10 1 fun b12 b13 =>
    st Try.prog h1 3 b12 b13 (.int .i64 (or .i64 n1 n3)) fun h4 =>
    ck (fre (nx h0) (nx h1) (off 0 1) 1 b12 b13 1) (
      six v0 n11 1 fun b14 b15 =>
      st Try.prog h4 3 b14 b15 (.int .i64 (or .i64 n1 n3)) fun h5 =>
      some ((.bool (not (eq n9 (or .i64 n1 n3)))), h5)))

theorem e78 (rec : Rec) (k : Nat) (v0 : Value) (v1 : Value) (h : H) : bodyT Try.prog E0 SC (XC Try.prog rec k) 78 (Value × H) [.opq v0, .opq v1] h (fun v h => some (v, h)) = f78 rec k v0 v1 h := by kernel_rfl

theorem t78 {k : Nat} {v0 : Value} {v1 : Value} {h h1 : H} {v : Value} (hh : f78 rn k v0 v1 h = some (v, h1)) : rn 78 #[v0, v1] h = some (v, trunc Try.prog h h1 v) :=
  run_of_bodyT (args := [.opq v0, .opq v1]) rfl ((e78 _ _ _ _ _).trans hh)

noncomputable def f79_l1 (_rec : Rec) (_k : Nat) (v2 : Value) (n1 : Int) (ws0 : List Value) (h3 : H) : Option (Ex × List Value × H) :=
  asI .i64 (gv ws0 0) fun n2 =>
  ifB (lt n2 n1) (
    asK (gv ws0 0) fun n3 =>
    nn n3 (
      asK (gv ws0 0) fun n4 =>
      six v2 n4 1 fun b0 b1 =>
      st Try.prog h3 3 b0 b1 (.int .i64 (shl .i64 1 n3)) fun h4 =>
      asI .i64 (gv ws0 0) fun n5 =>
      out .normal [(.int .i64 (add .i64 n5 1))] h4)) (
    out (.exit 0) [gv ws0 0] h3)

noncomputable def f79_l2 (_rec : Rec) (_k : Nat) (h0 : H) (v4 : Value) (n6 : Int) (ws2 : List Value) (h7 : H) : Option (Ex × List Value × H) :=
  asI .i64 (gv ws2 1) fun n7 =>
  ifB (lt n7 n6) (
    asK (gv ws2 1) fun n8 =>
    six v4 n8 3 fun b2 b3 =>
    ld Try.prog h7 59 b2 b3 fun v5 =>
    al h7 59 [(.int .i64 0), (.int .i64 0), (.int .i64 0)] fun h8 =>
    st Try.prog h8 59 (nx h7) 0 v5 fun h9 =>
    asI .i64 (gv ws2 1) fun n9 =>
    ifB (eq n9 0) (
      bls Try.prog h9 25 0 [] fun v6 h10 =>
      len (gv ws2 0) fun n10 =>
      six (gv ws2 0) (sub .i64 n10 1) 1 fun b4 b5 =>
      ld Try.prog h10 25 b4 b5 fun v7 =>
      app Try.prog h10 25 25 v6 v7 fun v8 h11 =>
      bls Try.prog h11 58 1 [(0, v8)] fun v9 h12 =>
      app Try.prog h12 58 58 (gv ws2 0) v9 fun v10 h13 =>
      len v10 fun n11 =>
      six v10 (sub .i64 n11 1) 1 fun b6 b7 =>
      ld Try.prog h13 25 b6 b7 fun v11 =>
      ld Try.prog h13 3 (nx h7) 0 fun v12 =>
      asI .i64 v12 fun n12 =>
      six v11 n12 1 fun b8 b9 =>
      ld Try.prog h13 3 b8 b9 fun v13 =>
      asI .i64 v13 fun n13 =>
      ld Try.prog h13 3 (nx h7) (off 0 1) fun v14 =>
      asI .i64 v14 fun n14 =>
      six v11 n14 1 fun b10 b11 =>
      ld Try.prog h13 3 b10 b11 fun v15 =>
      asI .i64 v15 fun n15 =>
      ld Try.prog h13 3 (nx h7) 0 fun v16 =>
      asI .i64 v16 fun n16 =>
      ld Try.prog h13 3 (nx h7) (off 0 1) fun v17 =>
      asI .i64 v17 fun n17 =>
      six v11 n16 1 fun b12 b13 =>
      st Try.prog h13 3 b12 b13 (.int .i64 (or .i64 n13 n15)) fun h14 =>
      ck (fre (nx h7) (nx h13) (off 0 1) 1 b12 b13 1) (
        six v11 n17 1 fun b14 b15 =>
        st Try.prog h14 3 b14 b15 (.int .i64 (or .i64 n13 n15)) fun h15 =>
        asI .i64 (gv ws2 1) fun n18 =>
        out .normal [v10, (.int .i64 (add .i64 n18 1))] h15)) (
      ld Try.prog h9 22 (nx h0) (off 0 1) fun v18 =>
      asI .i64 (gv ws2 1) fun n19 =>
      six v18 (sub .i64 n19 1) 3 fun b16 b17 =>
      ld Try.prog h9 3 b16 (off b17 2) fun v19 =>
      asI .i64 v19 fun n20 =>
      ld Try.prog h9 3 (nx h7) (off 0 2) fun v20 =>
      asI .i64 v20 fun n21 =>
      ifB (lt n20 n21) (
        bls Try.prog h9 25 0 [] fun v21 h16 =>
        len (gv ws2 0) fun n22 =>
        six (gv ws2 0) (sub .i64 n22 1) 1 fun b18 b19 =>
        ld Try.prog h16 25 b18 b19 fun v22 =>
        app Try.prog h16 25 25 v21 v22 fun v23 h17 =>
        bls Try.prog h17 58 1 [(0, v23)] fun v24 h18 =>
        app Try.prog h18 58 58 (gv ws2 0) v24 fun v25 h19 =>
        len v25 fun n23 =>
        six v25 (sub .i64 n23 1) 1 fun b20 b21 =>
        ld Try.prog h19 25 b20 b21 fun v26 =>
        ld Try.prog h19 3 (nx h7) 0 fun v27 =>
        asI .i64 v27 fun n24 =>
        six v26 n24 1 fun b22 b23 =>
        ld Try.prog h19 3 b22 b23 fun v28 =>
        asI .i64 v28 fun n25 =>
        ld Try.prog h19 3 (nx h7) (off 0 1) fun v29 =>
        asI .i64 v29 fun n26 =>
        six v26 n26 1 fun b24 b25 =>
        ld Try.prog h19 3 b24 b25 fun v30 =>
        asI .i64 v30 fun n27 =>
        ld Try.prog h19 3 (nx h7) 0 fun v31 =>
        asI .i64 v31 fun n28 =>
        ld Try.prog h19 3 (nx h7) (off 0 1) fun v32 =>
        asI .i64 v32 fun n29 =>
        six v26 n28 1 fun b26 b27 =>
        st Try.prog h19 3 b26 b27 (.int .i64 (or .i64 n25 n27)) fun h20 =>
        ck (fre (nx h7) (nx h19) (off 0 1) 1 b26 b27 1) (
          six v26 n29 1 fun b28 b29 =>
          st Try.prog h20 3 b28 b29 (.int .i64 (or .i64 n25 n27)) fun h21 =>
          asI .i64 (gv ws2 1) fun n30 =>
          out .normal [v25, (.int .i64 (add .i64 n30 1))] h21)) (
        len (gv ws2 0) fun n31 =>
        six (gv ws2 0) (sub .i64 n31 1) 1 fun b30 b31 =>
        ld Try.prog h9 25 b30 b31 fun v33 =>
        ld Try.prog h9 3 (nx h7) 0 fun v34 =>
        asI .i64 v34 fun n32 =>
        six v33 n32 1 fun b32 b33 =>
        ld Try.prog h9 3 b32 b33 fun v35 =>
        asI .i64 v35 fun n33 =>
        ld Try.prog h9 3 (nx h7) (off 0 1) fun v36 =>
        asI .i64 v36 fun n34 =>
        six v33 n34 1 fun b34 b35 =>
        ld Try.prog h9 3 b34 b35 fun v37 =>
        asI .i64 v37 fun n35 =>
        ld Try.prog h9 3 (nx h7) 0 fun v38 =>
        asI .i64 v38 fun n36 =>
        ld Try.prog h9 3 (nx h7) (off 0 1) fun v39 =>
        asI .i64 v39 fun n37 =>
        six v33 n36 1 fun b36 b37 =>
        st Try.prog h9 3 b36 b37 (.int .i64 (or .i64 n33 n35)) fun h22 =>
        ck (fre (nx h7) (nx h9) (off 0 1) 1 b36 b37 1) (
          six v33 n37 1 fun b38 b39 =>
          st Try.prog h22 3 b38 b39 (.int .i64 (or .i64 n33 n35)) fun h23 =>
          asI .i64 (gv ws2 1) fun n38 =>
          out .normal [gv ws2 0, (.int .i64 (add .i64 n38 1))] h23)))) (
    out (.exit 2) [gv ws2 0, gv ws2 1] h7)

noncomputable def f79 (rec : Rec) (k : Nat) (v0 : Value) (h0 : H) : Option (Value × H) :=
  bx h0 24 v0 fun h1 =>
  ld Try.prog h1 3 (nx h0) 0 fun v1 =>
  asI .i64 v1 fun n0 =>
  mks Try.prog h1 25 n0 n0 fun v2 h2 =>
  len v2 fun n1 =>
  lp k (f79_l1 rec k v2 n1) [(.int .i64 0)] h2 fun e0 _ h5 =>
  onE e0 0 (
    bls Try.prog h5 58 1 [(0, v2)] fun v3 h6 =>
    ld Try.prog h6 22 (nx h0) (off 0 1) fun v4 =>
    len v4 fun n6 =>
    lp k (f79_l2 rec k h0 v4 n6) [v3, (.int .i64 0)] h6 fun e1 ws3 h24 =>
    onE e1 2 (
      some (gv ws3 0, h24)) (
      none)) (
    none)

theorem e79 (rec : Rec) (k : Nat) (v0 : Value) (h : H) : bodyT Try.prog E0 SC (XC Try.prog rec k) 79 (Value × H) [.opq v0] h (fun v h => some (v, h)) = f79 rec k v0 h := by kernel_rfl

theorem t79 {k : Nat} {v0 : Value} {h h1 : H} {v : Value} (hh : f79 rn k v0 h = some (v, h1)) : rn 79 #[v0] h = some (v, trunc Try.prog h h1 v) :=
  run_of_bodyT (args := [.opq v0]) rfl ((e79 _ _ _ _).trans hh)

theorem x79 {k : Nat} {v0 : Value} {h h1 : H} {v : Value} (hh : f79 rn k v0 h = some (v, h1)) (hp : plainO v = false) : rn 79 #[v0] h = some (v, h1) := by rw [t79 hh, trunc_not hp]

noncomputable def f89 (rec : Rec) (_k : Nat) (v0 : Value) (v1 : Value) (h0 : H) : Option (Value × H) :=
  calls rec h0 105 [v0, v1] fun v2 h1 =>
  asI .i64 v2 fun n0 =>
  some ((.bool (le 0 n0)), h1)

theorem e89 (rec : Rec) (k : Nat) (v0 : Value) (v1 : Value) (h : H) : bodyT Try.prog E0 SC (XC Try.prog rec k) 89 (Value × H) [.opq v0, .opq v1] h (fun v h => some (v, h)) = f89 rec k v0 v1 h := by kernel_rfl

theorem t89 {k : Nat} {v0 : Value} {v1 : Value} {h h1 : H} {v : Value} (hh : f89 rn k v0 v1 h = some (v, h1)) : rn 89 #[v0, v1] h = some (v, trunc Try.prog h h1 v) :=
  run_of_bodyT (args := [.opq v0, .opq v1]) rfl ((e89 _ _ _ _ _).trans hh)

theorem p89 {k : Nat} {v0 : Value} {v1 : Value} {h h1 : H} {v : Value} (hh : f89 rn k v0 v1 h = some (v, h1)) (hp : plainO v = true) (x : Ext h h1) : rn 89 #[v0, v1] h = some (v, h) := by rw [t89 hh, trunc_pure hp x]

noncomputable def f99 (rec : Rec) (_k : Nat) (v0 : Value) (v1 : Value) (h0 : H) : Option (Value × H) :=
  bx h0 56 v0 fun h1 =>
  ld Try.prog h1 3 (nx h0) (off 0 2) fun v2 =>
  asI .i64 v2 fun n0 =>
  asP v1 fun b0 b1 =>
  ld Try.prog h1 3 b0 (off b1 2) fun v3 =>
  asI .i64 v3 fun n1 =>
  ifB (eq n0 n1) (
    ld Try.prog h1 56 (nx h0) 0 fun v4 =>
    asP v1 fun b2 b3 =>
    ld Try.prog h1 3 b2 b3 fun v5 =>
    asI .i64 v5 fun n2 =>
    calls rec h1 73 [v4, (.int .i64 n2)] fun v6 h2 =>
    asB v6 fun q0 =>
    ifB q0 (
      some ((.bool true), h2)) (
      ld Try.prog h2 56 (nx h0) 0 fun v7 =>
      asP v1 fun b4 b5 =>
      ld Try.prog h2 3 b4 (off b5 1) fun v8 =>
      asI .i64 v8 fun n3 =>
      calls rec h2 73 [v7, (.int .i64 n3)] fun v9 h3 =>
      asB v9 fun q1 =>
      some ((.bool q1), h3))) (
    some ((.bool false), h1))

theorem e99 (rec : Rec) (k : Nat) (v0 : Value) (v1 : Value) (h : H) : bodyT Try.prog E0 SC (XC Try.prog rec k) 99 (Value × H) [.opq v0, .opq v1] h (fun v h => some (v, h)) = f99 rec k v0 v1 h := by kernel_rfl

theorem t99 {k : Nat} {v0 : Value} {v1 : Value} {h h1 : H} {v : Value} (hh : f99 rn k v0 v1 h = some (v, h1)) : rn 99 #[v0, v1] h = some (v, trunc Try.prog h h1 v) :=
  run_of_bodyT (args := [.opq v0, .opq v1]) rfl ((e99 _ _ _ _ _).trans hh)

theorem p99 {k : Nat} {v0 : Value} {v1 : Value} {h h1 : H} {v : Value} (hh : f99 rn k v0 v1 h = some (v, h1)) (hp : plainO v = true) (x : Ext h h1) : rn 99 #[v0, v1] h = some (v, h) := by rw [t99 hh, trunc_pure hp x]

noncomputable def f100 (_rec : Rec) (_k : Nat) (n0 : Int) (n1 : Int) (v0 : Value) (v1 : Value) (h0 : H) : Option (Value × H) :=
  asP v0 fun b0 b1 =>
  ld Try.prog h0 3 b0 b1 fun v2 =>
  asI .i64 v2 fun n2 =>
  asP v0 fun b2 b3 =>
  st Try.prog h0 3 b2 b3 (.int .i64 (add .i64 n2 1)) fun h1 =>
  asP v1 fun b4 b5 =>
  ld Try.prog h1 29 b4 (off b5 1) fun v3 =>
  asP v0 fun b6 b7 =>
  ld Try.prog h1 3 b6 b7 fun v4 =>
  asI .i64 v4 fun n3 =>
  bld Try.prog 56 [(0, (.int .i64 n0)), (1, (.int .i64 n1)), (2, (.int .i64 n3))] fun v5 =>
  bls Try.prog h1 29 1 [(0, v5)] fun v6 h2 =>
  app Try.prog h2 29 29 v3 v6 fun v7 h3 =>
  asP v1 fun b8 b9 =>
  st Try.prog h3 29 b8 (off b9 1) v7 fun h4 =>
  some (undef, h4)

theorem e100 (rec : Rec) (k : Nat) (n0 : Int) (n1 : Int) (v0 : Value) (v1 : Value) (h : H) : bodyT Try.prog E0 SC (XC Try.prog rec k) 100 (Value × H) [.int .i64 n0, .int .i64 n1, .opq v0, .opq v1] h (fun v h => some (v, h)) = f100 rec k n0 n1 v0 v1 h := by kernel_rfl

theorem t100 {k : Nat} {n0 : Int} {n1 : Int} {v0 : Value} {v1 : Value} {h h1 : H} {v : Value} (hh : f100 rn k n0 n1 v0 v1 h = some (v, h1)) : rn 100 #[.int .i64 n0, .int .i64 n1, v0, v1] h = some (v, trunc Try.prog h h1 v) :=
  run_of_bodyT (args := [.int .i64 n0, .int .i64 n1, .opq v0, .opq v1]) rfl ((e100 _ _ _ _ _ _ _).trans hh)

theorem x100 {k : Nat} {n0 : Int} {n1 : Int} {v0 : Value} {v1 : Value} {h h1 : H} {v : Value} (hh : f100 rn k n0 n1 v0 v1 h = some (v, h1)) (hp : plainO v = false) : rn 100 #[.int .i64 n0, .int .i64 n1, v0, v1] h = some (v, h1) := by rw [t100 hh, trunc_not hp]

noncomputable def f105_l1 (rec : Rec) (_k : Nat) (v0 : Value) (v1 : Value) (n0 : Int) (ws0 : List Value) (h1 : H) : Option (Ex × List Value × H) :=
  asI .i64 (gv ws0 1) fun n1 =>
  ifB (lt n1 n0) (
    asK (gv ws0 1) fun n2 =>
    six v0 n2 3 fun b0 b1 =>
    ld Try.prog h1 56 b0 b1 fun v2 =>
    callsV rec h1 v1 [v2] fun v3 h2 =>
    asB v3 fun q0 =>
    ifB q0 (
      out .ret [gv ws0 1, gv ws0 1] h2) (
      asI .i64 (gv ws0 1) fun n3 =>
      out .normal [gv ws0 0, (.int .i64 (add .i64 n3 1))] h2)) (
    out (.exit 0) [gv ws0 0, gv ws0 1] h1)

noncomputable def f105 (rec : Rec) (k : Nat) (v0 : Value) (v1 : Value) (h0 : H) : Option (Value × H) :=
  len v0 fun n0 =>
  lp k (f105_l1 rec k v0 v1 n0) [(.int .i64 0), (.int .i64 0)] h0 fun e0 ws1 h3 =>
  onE e0 0 (
    some ((.int .i64 (-1)), h3)) (
    onR e0 (
      some (gv ws1 0, h3)))

theorem e105 (rec : Rec) (k : Nat) (v0 : Value) (v1 : Value) (h : H) : bodyT Try.prog E0 SC (XC Try.prog rec k) 105 (Value × H) [.opq v0, .opq v1] h (fun v h => some (v, h)) = f105 rec k v0 v1 h := by kernel_rfl

theorem t105 {k : Nat} {v0 : Value} {v1 : Value} {h h1 : H} {v : Value} (hh : f105 rn k v0 v1 h = some (v, h1)) : rn 105 #[v0, v1] h = some (v, trunc Try.prog h h1 v) :=
  run_of_bodyT (args := [.opq v0, .opq v1]) rfl ((e105 _ _ _ _ _).trans hh)

theorem p105 {k : Nat} {v0 : Value} {v1 : Value} {h h1 : H} {v : Value} (hh : f105 rn k v0 v1 h = some (v, h1)) (hp : plainO v = true) (x : Ext h h1) : rn 105 #[v0, v1] h = some (v, h) := by rw [t105 hh, trunc_pure hp x]

end Go.AM

end

section

/- What the small functions of calls answer. -/
namespace Go.AM
open Go.Proofs
/-- A call. -/
structure Kl where
  a : Int
  b : Int
  t : Int
deriving DecidableEq

def Kl.cells (c : Kl) : List Value := [iv c.a, iv c.b, iv c.t]

abbrev Kl.val (c : Kl) : Value := .agg c.cells.toArray

def Kl.has (c : Kl) (p : Int) : Bool := c.a == p || c.b == p

variable {k : Nat}
attribute [local simp] nx_eq nx_new nx_set blk_new blk_set asI_int asK_int asB_bool asP_ptr al_eq bx_eq len_slice onE_exit onE_ret onR_ret Value.cells d3 d29 d31 d56 d24 d59 d22 cell_new cell_set rd_new rd_set off eq lt le ifB
theorem s73 (c : Kl) (p : Int) (h : H) : rn 73 #[c.val, iv p] h = some (.bool (c.has p), h) :=
  p73 (k := 0) (h1 := h.new (.row c.cells 56 true)) (by simp [f73, Kl.val, Kl.cells, Kl.has]; by_cases h1 : c.a = p <;> simp [h1]) rfl (.new _ _)

theorem s74 (c : Kl) (p : Int) (h : H) : rn 74 #[c.val, iv p] h = some (iv (sub .i64 (add .i64 c.a c.b) p), h) :=
  p74 (k := 0) (h1 := h.new (.row c.cells 56 true)) (by simp [f74, Kl.val, Kl.cells]) rfl (.new _ _)

theorem s72 (n p : Int) (s : Value) (h : H) : rn 72 #[.agg #[iv n, s], iv p] h = some (.bool (decide (0 ≤ p ∧ p < n)), h) :=
  p72 (k := 0) (h1 := h.new (.row [iv n, s] 31 true)) (by simp [f72]; by_cases h1 : 0 ≤ p <;> simp [h1]) rfl (.new _ _)

theorem s42 (n p : Int) (s : Value) (h : H) : rn 42 #[.agg #[iv n, s], iv p] h = some (.bool (decide (0 ≤ p ∧ p < n)), h) :=
  p42 (k := 0) (h1 := h.new (.row [iv n, s] 24 true)) (by simp [f42]; by_cases h1 : 0 ≤ p <;> simp [h1]) rfl (.new _ _)

/-- Calls, as they stand in the staged forms. -/
theorem k73 {R : Type} (c : Kl) (p : Int) (h : H) (K : Value → H → Option R) : calls rn h 73 [.agg #[iv c.a, iv c.b, iv c.t], iv p] K = K (.bool (c.has p)) h := calls_eq (s73 c p h)

theorem k74 {R : Type} (c : Kl) (p : Int) (h : H) (K : Value → H → Option R) : calls rn h 74 [.agg #[iv c.a, iv c.b, iv c.t], iv p] K = K (iv (sub .i64 (add .i64 c.a c.b) p)) h := calls_eq (s74 c p h)

theorem k72 {R : Type} (n p : Int) (s : Value) (h : H) (K : Value → H → Option R) : calls rn h 72 [.agg #[iv n, s], iv p] K = K (.bool (decide (0 ≤ p ∧ p < n))) h := calls_eq (s72 n p s h)

theorem k42 {R : Type} (n p : Int) (s : Value) (h : H) (K : Value → H → Option R) : calls rn h 42 [.agg #[iv n, s], iv p] K = K (.bool (decide (0 ≤ p ∧ p < n))) h := calls_eq (s42 n p s h)

/-- Two calls that cannot be: at one time, with a person in common. -/
def clash (c x : Kl) : Bool := x.t == c.t && (x.has c.a || x.has c.b)

attribute [local simp] k73 k74 k72 k42 lt_ne lt_ne1
theorem s99 {h : H} {c x : Kl} {b : Nat} (hb : b < h.nx) (hc : h.blk b = some (.row c.cells 56 true)) : rn 99 #[x.val, pt b 0] h = some (.bool (clash c x), h) := by
  refine p99 (k := 0) (h1 := h.new (.row x.cells 56 true)) ?_ rfl (.new _ _)
  simp only [Kl.cells] at hc
  simp [f99, Kl.cells, clash, hb, cell_of hc]
  by_cases h1 : x.t = c.t <;> simp [h1]
  by_cases h2 : x.has c.a = true <;> simp [h2]

/-- The first element for which a function says yes. -/
theorem s105 {v0 v1 : Value} {h : H} {l : List Kl} (hs : SlR h 56 3 v0 (l.map Kl.cells)) {p : Kl → Bool} (hp : ∀ x ∈ l, callV rn v1 #[x.val] h = some (.bool (p x), h)) :
    ∃ r, rn 105 #[v0, v1] h = some (iv r, h) ∧ (le 0 r = l.any p) := by
  have hlen := hs.lt62
  rw [List.length_map] at hlen
  have hl := lp_same (F := f105_l1 rn (l.length + 1) v0 v1 l.length) (k := l.length + 1) (l := l) (h := h) (fun i (_ : Unit) => [iv 0, iv i])
    (fun i x s => if (!p x) = true then .inl s else .inr i) (fun _ _ => True) (fun _ => .ret) (fun i => [iv i, iv i]) 0 (fun _ => [iv 0, iv l.length]) (ws := [iv 0, iv 0]) (s0 := ()) rfl trivial (by omega) (by simp)
    (fun _ _ => by simp [f105_l1, gv, out])
    (by
      intro i c _ hc _
      have hi := (List.getElem?_eq_some_iff.1 hc).1
      refine ⟨fun _ _ => trivial, ?_⟩
      unfold f105_l1
      rw [show gv [iv 0, iv i] 1 = iv i from rfl, asI_int, lt_t (by omega), ifB_true, asK_int, hs.ldA ag56 sz56 (by omega) (x := c.cells) (by simp [hc]), callsV_some (hp c (List.mem_of_getElem? hc))]
      rw [asB_bool, asI_int, add64 (by omega) (by omega)]
      cases hpc : p c <;> simp [out, rnd, gv])
  rcases itL_all (ok := fun _ x => !p x) (g := fun i _ => i) (s0 := ()) l 0 with ⟨⟨r, h1⟩, j, x, hx, h2⟩ | ⟨h1, h2⟩
  · rw [h1] at hl
    refine ⟨r, p105 (k := l.length + 1) ?_ rfl (.refl _), ?_⟩
    · unfold f105
      rw [hs.len, List.length_map, lp_eq hl]
      rfl
    · rw [le_t (by omega)]
      symm
      rw [List.any_eq_true]
      exact ⟨x, List.mem_of_getElem? hx, by simpa using h2⟩
  · rw [h1] at hl
    refine ⟨-1, p105 (k := l.length + 1) ?_ rfl (.refl _), ?_⟩
    · unfold f105
      rw [hs.len, List.length_map, lp_eq hl.1]
      rfl
    · symm
      show _ = false
      rw [List.any_eq_false]
      intro x hx
      obtain ⟨j, hj, rfl⟩ := List.getElem_of_mem hx
      simpa using h2 j _ (List.getElem?_eq_getElem hj)

theorem s89 {v0 v1 : Value} {h : H} {l : List Kl} (hs : SlR h 56 3 v0 (l.map Kl.cells)) {p : Kl → Bool} (hp : ∀ x ∈ l, callV rn v1 #[x.val] h = some (.bool (p x), h)) :
    rn 89 #[v0, v1] h = some (.bool (l.any p), h) := by
  obtain ⟨r, e, hr⟩ := s105 hs hp
  refine p89 (k := 0) ?_ rfl (.refl _)
  unfold f89
  rw [calls_eq e, asI_int, hr]

/-- A call of a log of n people. -/
def okC (n : Int) (c : Kl) : Bool := decide (0 ≤ c.a ∧ c.a < n) && decide (0 ≤ c.b ∧ c.b < n) && !(c.a == c.b) && !decide (c.t < 1) && !decide (30 < c.t)

/-- May the call at place i follow those ahead of it? -/
def rowOk (n : Int) (l : List Kl) (i : Nat) : Bool :=
  match l[i]? with
  | none => true
  | some c => okC n c && !(decide (0 < i) && ((l[i - 1]?).any fun d => decide (c.t < d.t))) && !(l.take i).any (clash c)

def validP (n : Int) (l : List Kl) : Bool := !decide (n < 1) && !decide (7 < n) && !decide (24 < (l.length : Int)) && (List.range l.length).all (rowOk n l)

theorem under29 : Try.prog.underlying 29 = some (.slice 56) := by kernel_rfl

theorem s71 {n : Int} {sl : Value} {l : List Kl} {h : H} (hs : SlR h 56 3 sl (l.map Kl.cells)) : rn 71 #[.agg #[iv n, sl]] h = some (.bool (validP n l), h) := by
  have hlen := hs.lt62
  rw [List.length_map] at hlen
  have x1 : Ext h (h.new (.row [iv n, sl] 31 true)) := .new _ _
  have hb1 : (h.new (.row [iv n, sl] 31 true)).blk h.nx = some (.row [iv n, sl] 31 true) := blk_new_self _ _
  have hn1 : h.nx < (h.new (.row [iv n, sl] 31 true)).nx := Nat.lt_succ_self _
  have hs1 := hs.ext x1
  have hl : ∃ h', Ext (h.new (.row [iv n, sl] 31 true)) h' ∧ _ := lp_list (F := f71_l1 rn (l.length + 1) h sl l.length) (k := l.length + 1) (l := l) (h1 := h.new (.row [iv n, sl] 31 true)) (fun i (_ : Unit) => [.bool false, iv i])
    (fun i _ s => if rowOk n l i = true then .inl s else .inr i) (fun _ _ => True) (fun _ => .ret) (fun i => [.bool false, iv i]) 0 (fun _ => [.bool false, iv l.length]) (ws := [.bool false, iv 0]) (s0 := ()) rfl trivial (by omega) (by simp)
    (fun _ h2 _ _ => by simp [f71_l1, gv, out])
    (by
      intro i c _ h2 hc _ x2
      have hi := (List.getElem?_eq_some_iff.1 hc).1
      have hb2 := (x2.blk _ hn1).trans hb1
      have hn2 := Nat.lt_of_lt_of_le hn1 x2.nx
      have hs2 := hs1.ext x2
      have x3 := (Ext.refl h2).fresh 56 [iv 0, iv 0, iv 0] c.cells
      have hb3 := (x3.blk _ hn2).trans hb2
      have hcb := blk_fresh h2 56 [iv 0, iv 0, iv 0] c.cells
      have hn3 : h2.nx < (h2.fresh 56 [iv 0, iv 0, iv 0] c.cells).nx := Nat.lt_succ_self _
      have hs3 := hs2.ext x3
      obtain ⟨v', hv', hsli⟩ := hs3.take (i := (i : Int)) under29 sz56 (by omega) (by simp; omega)
      rw [Int.toNat_natCast, ← List.map_take] at hv'
      have h89 := s89 (v1 := .func (.func 99) #[] #[pt h2.nx 0]) (p := clash c) hv' (fun x _ => s99 hn3 hcb)
      refine ⟨fun _ _ => trivial, h2.fresh 56 [iv 0, iv 0, iv 0] c.cells, x3, ?_⟩
      unfold f71_l1
      rw [show gv [.bool false, iv i] 1 = iv i from rfl, show gv [.bool false, iv i] 0 = .bool false from rfl, asI_int, lt_t (by omega), ifB_true, asK_int, hs2.ldA ag56 sz56 (by omega) (x := c.cells) (by simp [hc])]
      rw [al_st (zs := [iv 0, iv 0, iv 0]) (xs := c.cells) sz56 rfl rfl]
      generalize h2.fresh 56 [iv 0, iv 0, iv 0] c.cells = h3 at *
      simp only [Kl.cells] at hcb
      have hprev : ∀ (K : Value → Option (Ex × List Value × H)), 0 < i → (AM.six sl (sub .i64 (i : Int) 1) 3 fun b2 b3 => (h3.cell b2 (b3 + 2)).bind K) = K (iv ((l[i - 1]?).getD c).t) := by
        intro K h0
        have h1 : i - 1 < l.length := by omega
        rw [sub64 (by omega) (by omega)]
        rw [hs3.cF (by omega) (x := (l[i-1]).cells) (by rw [show ((i : Int) - 1).toNat = i - 1 by omega]; simp [h1]) (y := iv (l[i-1]).t) rfl]
        simp [h1]
      have hcall : ∀ (K : Value → H → Option (Ex × List Value × H)), calls rn h3 89 [v', Value.func (Fn.func 99) #[] #[pt h2.nx 0]] K = K (.bool ((l.take i).any (clash c))) h3 := fun K => calls_eq h89
      by_cases h0 : 0 < i
      · simp [cell_of hb3, rd_of hb3, cell_of hcb, rd_of hcb, out, hsli, hcall, hprev, h0, hc, rnd]
        rw [add64 (by omega) (by omega)]
        have : l[i-1]? = some l[i-1] := List.getElem?_eq_getElem (by omega)
        grind [rowOk, okC]
      · simp [cell_of hb3, rd_of hb3, cell_of hcb, rd_of hcb, out, hsli, hcall, h0, hc, rnd]
        rw [add64 (by omega) (by omega)]
        grind [rowOk, okC])
  obtain ⟨h', x', hl⟩ := hl
  have hall : (∃ r, itL (σ := Unit) (ρ := Nat) (fun i (_ : Kl) s => if rowOk n l i = true then .inl s else .inr i) l 0 () = .inr r) ∧ (List.range l.length).all (rowOk n l) = false ∨
      itL (σ := Unit) (ρ := Nat) (fun i (_ : Kl) s => if rowOk n l i = true then .inl s else .inr i) l 0 () = .inl () ∧ (List.range l.length).all (rowOk n l) = true := by
    rcases itL_all (ok := fun i _ => rowOk n l i) (g := fun i _ => i) (s0 := ()) l 0 with ⟨h1, j, x, hx, h2⟩ | ⟨h1, h2⟩
    · exact .inl ⟨h1, by rw [List.all_eq_false]; exact ⟨j, List.mem_range.2 (List.getElem?_eq_some_iff.1 hx).1, by simpa using h2⟩⟩
    · refine .inr ⟨h1, ?_⟩
      rw [List.all_eq_true]
      intro j hj
      simpa using h2 j _ (List.getElem?_eq_getElem (List.mem_range.1 hj))
  have hF : ∃ h1, Ext h h1 ∧ f71 rn (l.length + 1) (.agg #[iv n, sl]) h = some (.bool (validP n l), h1) := by
    rcases hall with ⟨⟨r, h1⟩, h2⟩ | ⟨h1, h2⟩ <;> rw [h1] at hl
    · by_cases c : n < 1 ∨ 7 < n ∨ 24 < (l.length : Int)
      · refine ⟨_, x1, ?_⟩
        simp [f71, cell_of hb1, hs.len, validP]
        grind
      · refine ⟨h', x1.trans x', ?_⟩
        simp [f71, cell_of hb1, hs.len, validP, h2, lp_eq hl, gv]
        grind
    · by_cases c : n < 1 ∨ 7 < n ∨ 24 < (l.length : Int)
      · refine ⟨_, x1, ?_⟩
        simp [f71, cell_of hb1, hs.len, validP]
        grind
      · refine ⟨h', x1.trans x', ?_⟩
        simp [f71, cell_of hb1, hs.len, validP, h2, lp_eq hl.1, gv]
        grind
  obtain ⟨h1, e1, e2⟩ := hF
  exact p71 e2 rfl e1

end Go.AM

end

section

/- Stable sorting, plainly: elements with a key and a number of their own. -/
namespace Go.AM
/-- A call with its place in the beginning. -/
abbrev Tg := Kl × Nat

/-- First by the time, then by the place. -/
def ltT (x y : Tg) : Prop := x.1.t < y.1.t ∨ (x.1.t = y.1.t ∧ x.2 < y.2)

theorem ltT.trans {x y z : Tg} (h : ltT x y) (h' : ltT y z) : ltT x z := by unfold ltT at *; omega

theorem ltT.asymm {x y : Tg} (h : ltT x y) : ¬ ltT y x := by unfold ltT at *; omega

def Srt (l : List Tg) : Prop := l.Pairwise ltT

/-- A sorted list is known by what it holds. -/
theorem srt_eq : ∀ {l m : List Tg}, Srt l → Srt m → l.Perm m → l = m
  | [], m, _, _, p => (List.nil_perm.1 p).symm
  | x :: l, [], _, _, p => by have := p.length_eq; simp at this
  | x :: l, y :: m, h1, h2, p => by
    rw [Srt, List.pairwise_cons] at h1 h2
    have hx : x ∈ y :: m := p.mem_iff.1 List.mem_cons_self
    have hy : y ∈ x :: l := p.mem_iff.2 List.mem_cons_self
    have hxy : x = y := by
      rcases List.mem_cons.1 hx with h | h
      · exact h
      · rcases List.mem_cons.1 hy with h' | h'
        · exact h'.symm
        · exact absurd (h1.1 y h') (h2.1 x h).asymm
    subst hxy
    rw [srt_eq h1.2 h2.2 ((List.perm_cons x).1 p)]

/-- All of a list come ahead of all of another. -/
def Bef (l m : List Tg) : Prop := ∀ x ∈ l, ∀ y ∈ m, ltT x y

theorem srt_append {l m : List Tg} : Srt (l ++ m) ↔ Srt l ∧ Srt m ∧ Bef l m := by
  unfold Srt Bef
  rw [List.pairwise_append]

theorem srt_get {l : List Tg} (h : Srt l) {i j : Nat} {x y : Tg} (hi : l[i]? = some x) (hj : l[j]? = some y) (hij : i < j) : ltT x y := by
  obtain ⟨hi', rfl⟩ := List.getElem?_eq_some_iff.1 hi
  obtain ⟨hj', rfl⟩ := List.getElem?_eq_some_iff.1 hj
  exact List.pairwise_iff_getElem.1 h i j hi' hj' hij

/-! ### Two elements change places -/
def swapL {α : Type} (l : List α) (i j : Nat) : List α :=
  match l[i]?, l[j]? with
  | some x, some y => (l.set i y).set j x
  | _, _ => l

theorem swapL_map {α β : Type} (f : α → β) (l : List α) (i j : Nat) : swapL (l.map f) i j = (swapL l i j).map f := by
  unfold swapL
  rw [List.getElem?_map, List.getElem?_map]
  cases l[i]? with
  | none => rfl
  | some x =>
    cases l[j]? with
    | none => rfl
    | some y => simp [List.map_set]

/-- Two that stand apart. -/
theorem swap_apart {α : Type} (p m q : List α) (x y : α) : swapL (p ++ x :: (m ++ y :: q)) p.length (p.length + 1 + m.length) = p ++ y :: (m ++ x :: q) := by
  have h1 : (p ++ x :: (m ++ y :: q))[p.length]? = some x := by rw [List.getElem?_append_right (Nat.le_refl _), Nat.sub_self]; rfl
  have h2 : (p ++ x :: (m ++ y :: q))[p.length + 1 + m.length]? = some y := by
    rw [List.getElem?_append_right (by omega), show p.length + 1 + m.length - p.length = m.length + 1 by omega, List.getElem?_cons_succ, List.getElem?_append_right (Nat.le_refl _), Nat.sub_self]; rfl
  unfold swapL
  rw [h1, h2]
  simp only
  rw [List.set_append_right _ _ (Nat.le_refl _), Nat.sub_self, List.set_cons_zero, List.set_append_right _ _ (by omega), show p.length + 1 + m.length - p.length = m.length + 1 by omega, List.set_cons_succ, List.set_append_right _ _ (Nat.le_refl _), Nat.sub_self, List.set_cons_zero]

theorem swapL_comm {α : Type} (l : List α) (i j : Nat) (h : i ≠ j) : swapL l i j = swapL l j i := by
  unfold swapL
  cases l[i]? with
  | none => cases l[j]? <;> rfl
  | some x =>
    cases l[j]? with
    | none => rfl
    | some y => simp only; exact List.set_comm _ _ h

theorem swap_next {α : Type} (p q : List α) (x y : α) : swapL (p ++ x :: y :: q) (p.length + 1) p.length = p ++ y :: x :: q := by
  rw [swapL_comm _ _ _ (by omega)]
  exact swap_apart p [] q x y

/-! ### One element is put among sorted ones -/
/-- How far an element goes down a sorted list that is read from its end: the first n stay. -/
theorem insert_srt {S1 S2 : List Tg} {x : Tg} (hs : Srt (S1 ++ S2)) (h1 : ∀ y ∈ S1, ltT y x) (h2 : ∀ y ∈ S2, ltT x y) : Srt (S1 ++ x :: S2) := by
  rw [srt_append] at hs ⊢
  refine ⟨hs.1, ?_, ?_⟩
  · rw [Srt, List.pairwise_cons]; exact ⟨h2, hs.2.1⟩
  · intro a ha b hb
    rcases List.mem_cons.1 hb with rfl | hb
    · exact h1 a ha
    · exact hs.2.2 a ha b hb

/-- An element that is behind the last one is behind all. -/
theorem last_before {S : List Tg} {y x : Tg} (hs : Srt (S ++ [y])) (h : ltT y x) : ∀ z ∈ S ++ [y], ltT z x := by
  intro z hz
  rw [srt_append] at hs
  rw [List.mem_append, List.mem_singleton] at hz
  rcases hz with hz | rfl
  · exact (hs.2.2 z hz y (by simp)).trans h
  · exact h

theorem insert_at {B : List Tg} {x : Tg} {i : Nat} (hs : Srt B) (h1 : ∀ j y, j < i → B[j]? = some y → ltT y x) (h2 : ∀ j y, i ≤ j → B[j]? = some y → ltT x y) : Srt (B.take i ++ x :: B.drop i) := by
  refine insert_srt (by rw [List.take_append_drop]; exact hs) (fun y hy => ?_) (fun y hy => ?_)
  · obtain ⟨j, hj⟩ := List.getElem?_of_mem hy
    have hji : j < i := by
      have := (List.getElem?_eq_some_iff.1 hj).1
      rw [List.length_take] at this; omega
    rw [List.getElem?_take_of_lt hji] at hj
    exact h1 j y hji hj
  · obtain ⟨j, hj⟩ := List.getElem?_of_mem hy
    rw [List.getElem?_drop] at hj
    exact h2 (i + j) y (by omega) hj

/-! ### Merging -/
/-- Two sorted lists are cut where the smaller halves are ahead of the greater ones. -/
theorem merge_cut {A B : List Tg} {q lo hi st : Nat} (hA : Srt A) (hB : Srt B) (hlo : lo = 0 ∨ lo + B.length = q + 1) (hhi : hi = A.length ∨ hi = q + 1) (h1 : lo ≤ st) (h2 : st ≤ hi) (hA' : hi ≤ A.length) (hq : hi ≤ q + 1) (hB' : q + 1 ≤ lo + B.length)
    (hP : ∀ c x y, lo ≤ c → c < st → A[c]? = some x → B[q - c]? = some y → ltT x y) (hN : ∀ c x y, st ≤ c → c < hi → A[c]? = some x → B[q - c]? = some y → ltT y x) : Bef (A.take st) (B.drop (q + 1 - st)) ∧ Bef (B.take (q + 1 - st)) (A.drop st) := by
  constructor
  · intro x hx y hy
    obtain ⟨i, hi'⟩ := List.getElem?_of_mem hx
    obtain ⟨j, hj'⟩ := List.getElem?_of_mem hy
    have hil := (List.getElem?_eq_some_iff.1 hi').1
    rw [List.length_take] at hil
    rw [List.getElem?_take_of_lt (by omega)] at hi'
    rw [List.getElem?_drop] at hj'
    have hjl := (List.getElem?_eq_some_iff.1 hj').1
    by_cases hst : st = lo
    · rcases hlo with h | h <;> omega
    · have e1 := List.getElem?_eq_getElem (l := A) (i := st - 1) (by omega)
      have e2 := List.getElem?_eq_getElem (l := B) (i := q - (st - 1)) (by omega)
      have h3 := hP (st - 1) _ _ (by omega) (by omega) e1 e2
      have h4 : x = A[st - 1] ∨ ltT x A[st - 1] := by
        by_cases h : i = st - 1
        · rw [h] at hi'; rw [e1] at hi'; exact .inl (Option.some.inj hi').symm
        · exact .inr (srt_get hA hi' e1 (by omega))
      have h5 : B[q - (st - 1)] = y ∨ ltT B[q - (st - 1)] y := by
        by_cases h : q + 1 - st + j = q - (st - 1)
        · rw [h] at hj'; rw [e2] at hj'; exact .inl (Option.some.inj hj')
        · exact .inr (srt_get hB e2 hj' (by omega))
      rcases h4 with rfl | h4 <;> rcases h5 with rfl | h5
      · exact h3
      · exact h3.trans h5
      · exact h4.trans h3
      · exact (h4.trans h3).trans h5
  · intro y hy x hx
    obtain ⟨i, hi'⟩ := List.getElem?_of_mem hx
    obtain ⟨j, hj'⟩ := List.getElem?_of_mem hy
    have hjl := (List.getElem?_eq_some_iff.1 hj').1
    rw [List.length_take] at hjl
    rw [List.getElem?_take_of_lt (by omega)] at hj'
    rw [List.getElem?_drop] at hi'
    have hil := (List.getElem?_eq_some_iff.1 hi').1
    by_cases hst : st = hi
    · rcases hhi with h | h <;> omega
    · have e1 := List.getElem?_eq_getElem (l := A) (i := st) (by omega)
      have e2 := List.getElem?_eq_getElem (l := B) (i := q - st) (by omega)
      have h3 := hN st _ _ (Nat.le_refl _) (by omega) e1 e2
      have h4 : x = A[st] ∨ ltT A[st] x := by
        by_cases h : st + i = st
        · rw [h] at hi'; rw [e1] at hi'; exact .inl (Option.some.inj hi').symm
        · exact .inr (srt_get hA e1 hi' (by omega))
      have h5 : y = B[q - st] ∨ ltT y B[q - st] := by
        by_cases h : j = q - st
        · rw [h] at hj'; rw [e2] at hj'; exact .inl (Option.some.inj hj').symm
        · exact .inr (srt_get hB hj' e2 (by omega))
      rcases h4 with rfl | h4 <;> rcases h5 with rfl | h5
      · exact h3
      · exact h5.trans h3
      · exact h3.trans h4
      · exact (h5.trans h3).trans h4

theorem srt_take {l : List Tg} (h : Srt l) (n : Nat) : Srt (l.take n) := (srt_append.1 (by rw [List.take_append_drop]; exact h : Srt (l.take n ++ l.drop n))).1

theorem srt_drop {l : List Tg} (h : Srt l) (n : Nat) : Srt (l.drop n) := (srt_append.1 (by rw [List.take_append_drop]; exact h : Srt (l.take n ++ l.drop n))).2.1

theorem bef_perm {l l' m m' : List Tg} (h : Bef l m) (p : l.Perm l') (q : m.Perm m') : Bef l' m' := fun x hx y hy => h x (p.mem_iff.2 hx) y (q.mem_iff.2 hy)

theorem bef_append {l l' m m' : List Tg} (h1 : Bef l m) (h2 : Bef l m') (h3 : Bef l' m) (h4 : Bef l' m') : Bef (l ++ l') (m ++ m') := fun x hx y hy => by
  rw [List.mem_append] at hx hy
  rcases hx with hx | hx <;> rcases hy with hy | hy
  · exact h1 x hx y hy
  · exact h2 x hx y hy
  · exact h3 x hx y hy
  · exact h4 x hx y hy

/-- The halves, each merged, are the whole. -/
theorem merge_halves {A B S1 S2 : List Tg} {st k : Nat} (hA : Srt A) (hB : Srt B) (h1 : Bef (A.take st) (B.drop k)) (h2 : Bef (B.take k) (A.drop st)) (p1 : (A.take st ++ B.take k).Perm S1) (p2 : (A.drop st ++ B.drop k).Perm S2) (s1 : Srt S1) (s2 : Srt S2) :
    (A ++ B).Perm (S1 ++ S2) ∧ Srt (S1 ++ S2) := by
  constructor
  · refine List.Perm.trans ?_ (p1.append p2)
    have e1 : A ++ B = A.take st ++ (A.drop st ++ (B.take k ++ B.drop k)) := by rw [← List.append_assoc, List.take_append_drop, List.take_append_drop]
    have e2 : A.take st ++ B.take k ++ (A.drop st ++ B.drop k) = A.take st ++ (B.take k ++ (A.drop st ++ B.drop k)) := List.append_assoc ..
    rw [e1, e2]
    refine List.Perm.append_left _ ?_
    rw [← List.append_assoc, ← List.append_assoc]
    exact List.perm_append_comm.append_right _
  · rw [srt_append]
    refine ⟨s1, s2, bef_perm (bef_append ?_ h1 h2 ?_) p1 p2⟩
    · exact (srt_append.1 (by rw [List.take_append_drop]; exact hA : Srt (A.take st ++ A.drop st))).2.2
    · exact (srt_append.1 (by rw [List.take_append_drop]; exact hB : Srt (B.take k ++ B.drop k))).2.2

end Go.AM

end

section

/- A row of calls that is owned. -/
namespace Go.AM
open Go.Proofs
variable {R : Type}
abbrev flatK (l : List Kl) : List Value := (l.map Kl.cells).flatten

theorem flatK_cons (c : Kl) (l : List Kl) : flatK (c :: l) = iv c.a :: iv c.b :: iv c.t :: flatK l := rfl

theorem flatK_len : ∀ l : List Kl, (flatK l).length = l.length * 3
  | [] => rfl
  | c :: l => by rw [flatK_cons]; simp only [List.length_cons, flatK_len l]; omega

theorem setAt_flat : ∀ (l : List Kl) (i : Nat) (x : Kl), i < l.length → setAt (flatK l) (i * 3) x.cells = flatK (l.set i x)
  | [], _, _, h => by simp at h
  | c :: l, 0, x, _ => rfl
  | c :: l, i + 1, x, h => by
    have := setAt_flat l i x (by simpa using h)
    rw [List.set_cons_succ, flatK_cons, flatK_cons, ← this]
    rw [show (i + 1) * 3 = i * 3 + 1 + 1 + 1 by omega]
    simp only [setAt, Kl.cells, List.set_cons_succ, Nat.add_succ, Nat.add_zero]

structure KA (h : H) (b : Nat) (v : Value) (l : List Kl) : Prop where
  val : ∃ c, v = .slice (some ⟨b, 0, none⟩) l.length c ∧ l.length ≤ capK c ∧ capK c < U
  lt : b < h.nx
  row : h.blk b = some (.row (flatK l) 56 true)

theorem KA.slR {h : H} {b : Nat} {v : Value} {l : List Kl} (a : KA h b v l) : SlR h 56 3 v (l.map Kl.cells) := by
  obtain ⟨c, rfl, h1, h2⟩ := a.val
  have := SlR.at_ (h := h) (e := 56) (s := 3) (b := b) (o := 0) (c := c) (l := l.map Kl.cells) a.lt a.row (by simpa using h1) h2 (by rw [List.length_map, flatK_len]; omega) (fun i x hx => by
    have hxl : ∀ y ∈ l.map Kl.cells, y.length = 3 := fun y hy => by obtain ⟨z, _, rfl⟩ := List.mem_map.1 hy; rfl
    refine ⟨hxl x (List.mem_of_getElem? hx), fun j hj => ?_⟩
    rw [Nat.zero_add]
    exact flatten_get hxl i x hx j hj)
  rw [List.length_map] at this
  exact this

theorem KA.ext {h h' : H} {b : Nat} {v : Value} {l : List Kl} (a : KA h b v l) (x : Ext h h') : KA h' b v l := ⟨a.val, Nat.lt_of_lt_of_le a.lt x.nx, (x.blk _ a.lt).trans a.row⟩

theorem KA.keep {h h' : H} {b : Nat} {v : Value} {l : List Kl} (a : KA h b v l) (hn : h.nx ≤ h'.nx) (hb : h'.blk b = h.blk b) : KA h' b v l := ⟨a.val, Nat.lt_of_lt_of_le a.lt hn, hb.trans a.row⟩

theorem KA.get {h : H} {b : Nat} {v : Value} {l : List Kl} (a : KA h b v l) {i : Nat} {x : Kl} (hx : l[i]? = some x) (K : Value → Option R) : (AM.six v (i : Int) 3 fun b o => ld Try.prog h 56 b o K) = K (.agg #[iv x.a, iv x.b, iv x.t]) :=
  a.slR.ldA ag56 sz56 (by omega) (x := x.cells) (by rw [Int.toNat_natCast, List.getElem?_map, hx]; rfl) K

theorem KA.put {h : H} {b : Nat} {v : Value} {l : List Kl} (a : KA h b v l) {i : Nat} (hi : i < l.length) (K : Nat → Nat → Option R) : (AM.six v (i : Int) 3 K) = K b (i * 3) := by
  obtain ⟨c, rfl, _⟩ := a.val
  rw [six_in (by omega) (by omega)]
  simp

theorem KA.wrc {h : H} {b : Nat} {v : Value} {l : List Kl} (a : KA h b v l) {i : Nat} (hi : i < l.length) (x : Kl) : AM.wrc 3 h b (i * 3) (.agg #[iv x.a, iv x.b, iv x.t]) = some (h.set b (.row (flatK (l.set i x)) 56 true)) := by
  unfold AM.wrc
  rw [a.row]
  simp only
  rw [if_pos ⟨rfl, by rw [flatK_len]; simp [Value.cells]; omega, by rfl⟩, ← setAt_flat l i x hi]
  rfl

theorem KA.set {h : H} {b : Nat} {v : Value} {l : List Kl} (a : KA h b v l) (i : Nat) (x : Kl) : KA (h.set b (.row (flatK (l.set i x)) 56 true)) b v (l.set i x) := by
  obtain ⟨c, h1, h2, h3⟩ := a.val
  exact ⟨⟨c, by simpa using h1, by simpa using h2, h3⟩, a.lt, blk_set_self _ _ _⟩

end Go.AM

end

section

/- The staged forms of functions 108, 109, 114, 117, 119, 120, and what calls of these answer. -/
namespace Go.AM
open Go.Proofs
noncomputable def f108 (rec : Rec) (_k : Nat) (v0 : Value) (v1 : Value) (h0 : H) : Option (Value × H) :=
  len v0 fun n0 =>
  calls rec h0 114 [v0, (.int .i64 n0), v1] fun _ h1 =>
  some (undef, h1)

theorem e108 (rec : Rec) (k : Nat) (v0 : Value) (v1 : Value) (h : H) : bodyT Try.prog E0 SC (XC Try.prog rec k) 108 (Value × H) [.opq v0, .opq v1] h (fun v h => some (v, h)) = f108 rec k v0 v1 h := by kernel_rfl

theorem t108 {k : Nat} {v0 : Value} {v1 : Value} {h h1 : H} {v : Value} (hh : f108 rn k v0 v1 h = some (v, h1)) : rn 108 #[v0, v1] h = some (v, trunc Try.prog h h1 v) :=
  run_of_bodyT (args := [.opq v0, .opq v1]) rfl ((e108 _ _ _ _ _).trans hh)

theorem x108 {k : Nat} {v0 : Value} {v1 : Value} {h h1 : H} {v : Value} (hh : f108 rn k v0 v1 h = some (v, h1)) (hp : plainO v = false) : rn 108 #[v0, v1] h = some (v, h1) := by rw [t108 hh, trunc_not hp]

noncomputable def f109 (_rec : Rec) (_k : Nat) (v0 : Value) (v1 : Value) (h0 : H) : Option (Value × H) :=
  bx h0 56 v0 fun h1 =>
  bx h1 56 v1 fun h2 =>
  ld Try.prog h2 3 (nx h0) (off 0 2) fun v2 =>
  asI .i64 v2 fun n0 =>
  ld Try.prog h2 3 (nx h1) (off 0 2) fun v3 =>
  asI .i64 v3 fun n1 =>
  some ((.int .i64 (sub .i64 n0 n1)), h2)

theorem e109 (rec : Rec) (k : Nat) (v0 : Value) (v1 : Value) (h : H) : bodyT Try.prog E0 SC (XC Try.prog rec k) 109 (Value × H) [.opq v0, .opq v1] h (fun v h => some (v, h)) = f109 rec k v0 v1 h := by kernel_rfl

theorem t109 {k : Nat} {v0 : Value} {v1 : Value} {h h1 : H} {v : Value} (hh : f109 rn k v0 v1 h = some (v, h1)) : rn 109 #[v0, v1] h = some (v, trunc Try.prog h h1 v) :=
  run_of_bodyT (args := [.opq v0, .opq v1]) rfl ((e109 _ _ _ _ _).trans hh)

theorem p109 {k : Nat} {v0 : Value} {v1 : Value} {h h1 : H} {v : Value} (hh : f109 rn k v0 v1 h = some (v, h1)) (hp : plainO v = true) (x : Ext h h1) : rn 109 #[v0, v1] h = some (v, h) := by rw [t109 hh, trunc_pure hp x]

noncomputable def f114_l1 (rec : Rec) (_k : Nat) (v0 : Value) (n0 : Int) (v1 : Value) (ws0 : List Value) (h1 : H) : Option (Ex × List Value × H) :=
  asI .i64 (gv ws0 1) fun n1 =>
  ifB (le n1 n0) (
    calls rec h1 117 [v0, gv ws0 0, gv ws0 1, v1] fun _ h2 =>
    asI .i64 (gv ws0 1) fun n2 =>
    out .normal [gv ws0 1, (.int .i64 (add .i64 n2 20))] h2) (
    out (.exit 0) [gv ws0 0, gv ws0 1] h1)

noncomputable def f114_l3 (rec : Rec) (_k : Nat) (v0 : Value) (n0 : Int) (v1 : Value) (ws2 : List Value) (ws3 : List Value) (h6 : H) : Option (Ex × List Value × H) :=
  asI .i64 (gv ws3 1) fun n5 =>
  ifB (le n5 n0) (
    asI .i64 (gv ws3 0) fun n6 =>
    asI .i64 (gv ws2 0) fun n7 =>
    calls rec h6 118 [v0, gv ws3 0, (.int .i64 (add .i64 n6 n7)), gv ws3 1, v1] fun _ h7 =>
    asI .i64 (gv ws2 0) fun n8 =>
    asI .i64 (gv ws3 1) fun n9 =>
    out .normal [gv ws3 1, (.int .i64 (add .i64 n9 (mul .i64 2 n8)))] h7) (
    out (.exit 4) [gv ws3 0, gv ws3 1] h6)

noncomputable def f114_l2 (rec : Rec) (k : Nat) (v0 : Value) (n0 : Int) (v1 : Value) (ws2 : List Value) (h5 : H) : Option (Ex × List Value × H) :=
  asI .i64 (gv ws2 0) fun n3 =>
  ifB (lt n3 n0) (
    asI .i64 (gv ws2 0) fun n4 =>
    lp k (f114_l3 rec k v0 n0 v1 ws2) [(.int .i64 0), (.int .i64 (mul .i64 2 n4))] h5 fun e1 ws4 h8 =>
    onE e1 4 (
      asI .i64 (gv ws4 0) fun n10 =>
      asI .i64 (gv ws2 0) fun n11 =>
      ifB (lt (add .i64 n10 n11) n0) (
        calls rec h8 118 [v0, gv ws4 0, (.int .i64 (add .i64 n10 n11)), (.int .i64 n0), v1] fun _ h9 =>
        asI .i64 (gv ws2 0) fun n12 =>
        out .normal [(.int .i64 (mul .i64 n12 2))] h9) (
        asI .i64 (gv ws2 0) fun n13 =>
        out .normal [(.int .i64 (mul .i64 n13 2))] h8)) (
      none)) (
    out (.exit 2) [gv ws2 0] h5)

noncomputable def f114 (rec : Rec) (k : Nat) (v0 : Value) (n0 : Int) (v1 : Value) (h0 : H) : Option (Value × H) :=
  lp k (f114_l1 rec k v0 n0 v1) [(.int .i64 0), (.int .i64 20)] h0 fun e0 ws1 h3 =>
  onE e0 0 (
    calls rec h3 117 [v0, gv ws1 0, (.int .i64 n0), v1] fun _ h4 =>
    lp k (f114_l2 rec k v0 n0 v1) [(.int .i64 20)] h4 fun e2 _ h10 =>
    onE e2 2 (
      some (undef, h10)) (
      none)) (
    none)

theorem e114 (rec : Rec) (k : Nat) (v0 : Value) (n0 : Int) (v1 : Value) (h : H) : bodyT Try.prog E0 SC (XC Try.prog rec k) 114 (Value × H) [.opq v0, .int .i64 n0, .opq v1] h (fun v h => some (v, h)) = f114 rec k v0 n0 v1 h := by kernel_rfl

theorem t114 {k : Nat} {v0 : Value} {n0 : Int} {v1 : Value} {h h1 : H} {v : Value} (hh : f114 rn k v0 n0 v1 h = some (v, h1)) : rn 114 #[v0, .int .i64 n0, v1] h = some (v, trunc Try.prog h h1 v) :=
  run_of_bodyT (args := [.opq v0, .int .i64 n0, .opq v1]) rfl ((e114 _ _ _ _ _ _).trans hh)

theorem x114 {k : Nat} {v0 : Value} {n0 : Int} {v1 : Value} {h h1 : H} {v : Value} (hh : f114 rn k v0 n0 v1 h = some (v, h1)) (hp : plainO v = false) : rn 114 #[v0, .int .i64 n0, v1] h = some (v, h1) := by rw [t114 hh, trunc_not hp]

noncomputable def f117_l2 (rec : Rec) (_k : Nat) (v0 : Value) (n0 : Int) (v1 : Value) (ws1 : List Value) (h2 : H) : Option (Ex × List Value × H) :=
  asI .i64 (gv ws1 0) fun n3 =>
  ifB (lt n0 n3) (
    asK (gv ws1 0) fun n4 =>
    six v0 n4 3 fun b0 b1 =>
    ld Try.prog h2 56 b0 b1 fun v2 =>
    asI .i64 (gv ws1 0) fun n5 =>
    six v0 (sub .i64 n5 1) 3 fun b2 b3 =>
    ld Try.prog h2 56 b2 b3 fun v3 =>
    callsV rec h2 v1 [v2, v3] fun v4 h3 =>
    asI .i64 v4 fun n6 =>
    ifB (lt n6 0) (
      asI .i64 (gv ws1 0) fun n7 =>
      asI .i64 (gv ws1 0) fun n8 =>
      six v0 (sub .i64 n8 1) 3 fun b4 b5 =>
      ld Try.prog h3 56 b4 b5 fun v5 =>
      asK (gv ws1 0) fun n9 =>
      six v0 n9 3 fun b6 b7 =>
      ld Try.prog h3 56 b6 b7 fun v6 =>
      asK (gv ws1 0) fun n10 =>
      six v0 n10 3 fun b8 b9 =>
      st Try.prog h3 56 b8 b9 v5 fun h4 =>
      six v0 (sub .i64 n7 1) 3 fun b10 b11 =>
      st Try.prog h4 56 b10 b11 v6 fun h5 =>
      asI .i64 (gv ws1 0) fun n11 =>
      out .normal [(.int .i64 (sub .i64 n11 1))] h5) (
      out (.exit 2) [gv ws1 0] h3)) (
    out (.exit 2) [gv ws1 0] h2)

noncomputable def f117_l1 (rec : Rec) (k : Nat) (v0 : Value) (n0 : Int) (n1 : Int) (v1 : Value) (ws0 : List Value) (h1 : H) : Option (Ex × List Value × H) :=
  asI .i64 (gv ws0 0) fun n2 =>
  ifB (lt n2 n1) (
    lp k (f117_l2 rec k v0 n0 v1) [gv ws0 0] h1 fun e0 _ h6 =>
    onE e0 2 (
      asI .i64 (gv ws0 0) fun n12 =>
      out .normal [(.int .i64 (add .i64 n12 1))] h6) (
      none)) (
    out (.exit 0) [gv ws0 0] h1)

noncomputable def f117 (rec : Rec) (k : Nat) (v0 : Value) (n0 : Int) (n1 : Int) (v1 : Value) (h0 : H) : Option (Value × H) :=
  lp k (f117_l1 rec k v0 n0 n1 v1) [(.int .i64 (add .i64 n0 1))] h0 fun e1 _ h7 =>
  onE e1 0 (
    some (undef, h7)) (
    none)

theorem e117 (rec : Rec) (k : Nat) (v0 : Value) (n0 : Int) (n1 : Int) (v1 : Value) (h : H) : bodyT Try.prog E0 SC (XC Try.prog rec k) 117 (Value × H) [.opq v0, .int .i64 n0, .int .i64 n1, .opq v1] h (fun v h => some (v, h)) = f117 rec k v0 n0 n1 v1 h := by kernel_rfl

theorem t117 {k : Nat} {v0 : Value} {n0 : Int} {n1 : Int} {v1 : Value} {h h1 : H} {v : Value} (hh : f117 rn k v0 n0 n1 v1 h = some (v, h1)) : rn 117 #[v0, .int .i64 n0, .int .i64 n1, v1] h = some (v, trunc Try.prog h h1 v) :=
  run_of_bodyT (args := [.opq v0, .int .i64 n0, .int .i64 n1, .opq v1]) rfl ((e117 _ _ _ _ _ _ _).trans hh)

theorem x117 {k : Nat} {v0 : Value} {n0 : Int} {n1 : Int} {v1 : Value} {h h1 : H} {v : Value} (hh : f117 rn k v0 n0 n1 v1 h = some (v, h1)) (hp : plainO v = false) : rn 117 #[v0, .int .i64 n0, .int .i64 n1, v1] h = some (v, h1) := by rw [t117 hh, trunc_not hp]

noncomputable def f119_l1 (rec : Rec) (_k : Nat) (v0 : Value) (n1 : Int) (v1 : Value) (ws0 : List Value) (h1 : H) : Option (Ex × List Value × H) :=
  asI .i64 (gv ws0 0) fun n3 =>
  asI .i64 (gv ws0 1) fun n4 =>
  ifB (not (eq n3 n4)) (
    asI .i64 (gv ws0 0) fun n5 =>
    asI .i64 (gv ws0 1) fun n6 =>
    ifB (lt n6 n5) (
      asI .i64 (gv ws0 0) fun n7 =>
      calls rec h1 120 [v0, (.int .i64 (sub .i64 n1 n7)), (.int .i64 n1), gv ws0 1, v1] fun _ h2 =>
      asI .i64 (gv ws0 0) fun n8 =>
      asI .i64 (gv ws0 1) fun n9 =>
      out .normal [(.int .i64 (sub .i64 n8 n9)), gv ws0 1] h2) (
      asI .i64 (gv ws0 0) fun n10 =>
      asI .i64 (gv ws0 1) fun n11 =>
      asI .i64 (gv ws0 0) fun n12 =>
      calls rec h1 120 [v0, (.int .i64 (sub .i64 n1 n10)), (.int .i64 (sub .i64 (add .i64 n1 n11) n12)), gv ws0 0, v1] fun _ h3 =>
      asI .i64 (gv ws0 1) fun n13 =>
      asI .i64 (gv ws0 0) fun n14 =>
      out .normal [gv ws0 0, (.int .i64 (sub .i64 n13 n14))] h3)) (
    out (.exit 0) [gv ws0 0, gv ws0 1] h1)

noncomputable def f119 (rec : Rec) (k : Nat) (v0 : Value) (n0 : Int) (n1 : Int) (n2 : Int) (v1 : Value) (h0 : H) : Option (Value × H) :=
  lp k (f119_l1 rec k v0 n1 v1) [(.int .i64 (sub .i64 n1 n0)), (.int .i64 (sub .i64 n2 n1))] h0 fun e0 ws1 h4 =>
  onE e0 0 (
    asI .i64 (gv ws1 0) fun n15 =>
    calls rec h4 120 [v0, (.int .i64 (sub .i64 n1 n15)), (.int .i64 n1), gv ws1 0, v1] fun _ h5 =>
    some (undef, h5)) (
    none)

theorem e119 (rec : Rec) (k : Nat) (v0 : Value) (n0 : Int) (n1 : Int) (n2 : Int) (v1 : Value) (h : H) : bodyT Try.prog E0 SC (XC Try.prog rec k) 119 (Value × H) [.opq v0, .int .i64 n0, .int .i64 n1, .int .i64 n2, .opq v1] h (fun v h => some (v, h)) = f119 rec k v0 n0 n1 n2 v1 h := by kernel_rfl

theorem t119 {k : Nat} {v0 : Value} {n0 : Int} {n1 : Int} {n2 : Int} {v1 : Value} {h h1 : H} {v : Value} (hh : f119 rn k v0 n0 n1 n2 v1 h = some (v, h1)) : rn 119 #[v0, .int .i64 n0, .int .i64 n1, .int .i64 n2, v1] h = some (v, trunc Try.prog h h1 v) :=
  run_of_bodyT (args := [.opq v0, .int .i64 n0, .int .i64 n1, .int .i64 n2, .opq v1]) rfl ((e119 _ _ _ _ _ _ _ _).trans hh)

noncomputable def f120_l1 (_rec : Rec) (_k : Nat) (v0 : Value) (n0 : Int) (n1 : Int) (n2 : Int) (ws0 : List Value) (h1 : H) : Option (Ex × List Value × H) :=
  asI .i64 (gv ws0 0) fun n3 =>
  ifB (lt n3 n2) (
    asI .i64 (gv ws0 0) fun n4 =>
    asI .i64 (gv ws0 0) fun n5 =>
    asI .i64 (gv ws0 0) fun n6 =>
    six v0 (add .i64 n1 n6) 3 fun b0 b1 =>
    ld Try.prog h1 56 b0 b1 fun v2 =>
    asI .i64 (gv ws0 0) fun n7 =>
    six v0 (add .i64 n0 n7) 3 fun b2 b3 =>
    ld Try.prog h1 56 b2 b3 fun v3 =>
    six v0 (add .i64 n0 n4) 3 fun b4 b5 =>
    st Try.prog h1 56 b4 b5 v2 fun h2 =>
    six v0 (add .i64 n1 n5) 3 fun b6 b7 =>
    st Try.prog h2 56 b6 b7 v3 fun h3 =>
    asI .i64 (gv ws0 0) fun n8 =>
    out .normal [(.int .i64 (add .i64 n8 1))] h3) (
    out (.exit 0) [gv ws0 0] h1)

noncomputable def f120 (rec : Rec) (k : Nat) (v0 : Value) (n0 : Int) (n1 : Int) (n2 : Int) (_v1 : Value) (h0 : H) : Option (Value × H) :=
  lp k (f120_l1 rec k v0 n0 n1 n2) [(.int .i64 0)] h0 fun e0 _ h4 =>
  onE e0 0 (
    some (undef, h4)) (
    none)

theorem e120 (rec : Rec) (k : Nat) (v0 : Value) (n0 : Int) (n1 : Int) (n2 : Int) (v1 : Value) (h : H) : bodyT Try.prog E0 SC (XC Try.prog rec k) 120 (Value × H) [.opq v0, .int .i64 n0, .int .i64 n1, .int .i64 n2, .opq v1] h (fun v h => some (v, h)) = f120 rec k v0 n0 n1 n2 v1 h := by kernel_rfl

theorem t120 {k : Nat} {v0 : Value} {n0 : Int} {n1 : Int} {n2 : Int} {v1 : Value} {h h1 : H} {v : Value} (hh : f120 rn k v0 n0 n1 n2 v1 h = some (v, h1)) : rn 120 #[v0, .int .i64 n0, .int .i64 n1, .int .i64 n2, v1] h = some (v, trunc Try.prog h h1 v) :=
  run_of_bodyT (args := [.opq v0, .int .i64 n0, .int .i64 n1, .int .i64 n2, .opq v1]) rfl ((e120 _ _ _ _ _ _ _ _).trans hh)

end Go.AM

end

section

/- Sorting: what is compared, ranges that change places, rotation, insertion. -/
namespace Go.AM
open Go.Proofs
variable {R : Type}
attribute [local simp] nx_eq nx_new nx_set blk_new blk_set asI_int asK_int asB_bool asP_ptr al_eq bx_eq len_slice onE_exit onE_ret onR_ret Value.cells cell_new cell_set rd_new rd_set off eq lt le ifB gv out
abbrev cmpV : Value := .func (.func 109) #[] #[]

/-- Only one row has changed. -/
structure Fk (h h' : H) (b : Nat) : Prop where
  nx : h.nx ≤ h'.nx
  blk : ∀ k, k < h.nx → k ≠ b → h'.blk k = h.blk k

theorem Fk.refl (h : H) (b : Nat) : Fk h h b := ⟨Nat.le_refl _, fun _ _ _ => rfl⟩

theorem Fk.trans {h h' h'' : H} {b : Nat} (a : Fk h h' b) (c : Fk h' h'' b) : Fk h h'' b := ⟨Nat.le_trans a.nx c.nx, fun k hk hkb => (c.blk k (Nat.lt_of_lt_of_le hk a.nx) hkb).trans (a.blk k hk hkb)⟩

/-- What a call leaves that has turned one row. -/
theorem fk_trunc {h h1 : H} {b : Nat} {v w : Value} {L : List Kl} (f : Fk h h1 b) (hb : b < h.nx) (k : KA h1 b v L) : Fk h (trunc Try.prog h h1 w) b ∧ KA (trunc Try.prog h h1 w) b v L := by
  obtain ⟨t1, _, t3⟩ := trunc_blk (P := Try.prog) (v := w) f.nx
  exact ⟨⟨t1, fun k' hk hkb => (t3 k' hk).trans (f.blk k' hk hkb)⟩, ⟨k.val, Nat.lt_of_lt_of_le hb t1, (t3 b hb).trans k.row⟩⟩

theorem s109 (x y : Kl) (hx : 0 ≤ x.t ∧ x.t ≤ 1000) (hy : 0 ≤ y.t ∧ y.t ≤ 1000) (h : H) : rn 109 #[x.val, y.val] h = some (iv (x.t - y.t), h) := by
  have x1 := Ext.new h (.row x.cells 56 true)
  have x2 := Ext.new (h.new (.row x.cells 56 true)) (.row y.cells 56 true)
  refine p109 (k := 0) (h1 := (h.new (.row x.cells 56 true)).new (.row y.cells 56 true)) ?_ rfl (x1.trans x2)
  have hb2 : ((h.new (.row x.cells 56 true)).new (.row y.cells 56 true)).blk (h.nx + 1) = some (.row y.cells 56 true) := blk_new_self _ _
  have hb1 : ((h.new (.row x.cells 56 true)).new (.row y.cells 56 true)).blk h.nx = some (.row x.cells 56 true) := (x2.blk _ (Nat.lt_succ_self _)).trans (blk_new_self _ _)
  unfold f109
  rw [bx_eq, bx_eq]
  simp only [d3, nx_eq, nx_new, Value.cells]
  rw [show AM.off 0 2 = 2 from rfl]
  rw [cell_of hb1, cell_of hb2]
  rw [show (Kl.cells x)[2]? = some (iv x.t) from rfl, show (Kl.cells y)[2]? = some (iv y.t) from rfl]
  simp only [Option.bind_some, asI_int]
  rw [sub64 (by omega) (by omega)]

theorem kcmp (x y : Kl) (hx : 0 ≤ x.t ∧ x.t ≤ 1000) (hy : 0 ≤ y.t ∧ y.t ≤ 1000) (h : H) (K : Value → H → Option R) : callsV rn h cmpV [.agg #[iv x.a, iv x.b, iv x.t], .agg #[iv y.a, iv y.b, iv y.t]] K = K (iv (x.t - y.t)) h := by
  rw [callsV_eq]
  exact calls_eq (s109 x y hx hy h)

/-- Two elements change places in the heap. -/
theorem ka_swap {h : H} {b : Nat} {v : Value} {l : List Kl} {i j : Nat} {x y : Kl} (a : KA h b v l) (hi : l[i]? = some x) (hj : l[j]? = some y) (K : H → Option R) :
    ∃ h', ((six v (i : Int) 3 fun b4 b5 => st Try.prog h 56 b4 b5 (.agg #[iv y.a, iv y.b, iv y.t]) fun h2 => six v (j : Int) 3 fun b6 b7 => st Try.prog h2 56 b6 b7 (.agg #[iv x.a, iv x.b, iv x.t]) K) = K h') ∧ Fk h h' b ∧ KA h' b v (swapL l i j) := by
  have hil := (List.getElem?_eq_some_iff.1 hi).1
  have hjl := (List.getElem?_eq_some_iff.1 hj).1
  have a1 := a.set i y
  have a2 := a1.set j x
  refine ⟨(h.set b (.row (flatK (l.set i y)) 56 true)).set b (.row (flatK ((l.set i y).set j x)) 56 true), ?_, ⟨Nat.le_refl _, fun k _ hk => ?_⟩, ?_⟩
  · rw [a.put hil, w56, a.wrc hil y, Option.bind_some, a1.put (by rw [List.length_set]; exact hjl), w56, a1.wrc (by rw [List.length_set]; exact hjl) x, Option.bind_some]
  · rw [blk_set_ne _ _ _ hk, blk_set_ne _ _ _ hk]
  · unfold swapL
    rw [hi, hj]
    exact a2

/-! ### Ranges -/
theorem s120 {h : H} {b : Nat} {v : Value} {X U M W Y : List Kl} (ka : KA h b v (X ++ (U ++ (M ++ (W ++ Y))))) (hl : W.length = U.length) (hm : X.length + U.length + M.length + W.length + Y.length ≤ 1000) {p q n : Int} (hp : p = X.length) (hq : q = ((X.length + U.length + M.length : Nat) : Int)) (hn : n = U.length) :
    ∃ h', rn 120 #[v, iv p, iv q, iv n, cmpV] h = some (undef, h') ∧ Fk h h' b ∧ KA h' b v (X ++ (W ++ (M ++ (U ++ Y)))) := by
  subst hp hq hn
  obtain ⟨e, ws', h', hlp, rfl, fk, ka'⟩ := lp_range (F := f120_l1 rn 2000 v (X.length : Int) ((X.length + U.length + M.length : Nat) : Int) (U.length : Int)) (k := 2000) (n := U.length)
    (fun i ws g => ws = [iv i] ∧ Fk h g b ∧ KA g b v (X ++ (W.take i ++ (U.drop i ++ (M ++ (U.take i ++ (W.drop i ++ Y)))))))
    (fun e _ g => e = .exit 0 ∧ Fk h g b ∧ KA g b v (X ++ (W ++ (M ++ (U ++ Y)))))
    (by
      rintro i ws g hi ⟨rfl, fk, ka⟩
      have hU := List.getElem?_eq_getElem hi
      have hW := List.getElem?_eq_getElem (show i < W.length by omega)
      generalize hxd : U[i] = x at hU
      generalize hyd : W[i] = y at hW
      have dU : U.drop i = x :: U.drop (i + 1) := by rw [List.drop_eq_getElem_cons hi, hxd]
      have dW : W.drop i = y :: W.drop (i + 1) := by rw [List.drop_eq_getElem_cons (by omega), hyd]
      have tU : U.take (i + 1) = U.take i ++ [x] := by rw [List.take_add_one, hU]; rfl
      have tW : W.take (i + 1) = W.take i ++ [y] := by rw [List.take_add_one, hW]; rfl
      obtain ⟨L, hL⟩ : ∃ L, X ++ (W.take i ++ (U.drop i ++ (M ++ (U.take i ++ (W.drop i ++ Y))))) = L := ⟨_, rfl⟩
      have e0 : L = (X ++ W.take i) ++ x :: ((U.drop (i + 1) ++ (M ++ U.take i)) ++ y :: (W.drop (i + 1) ++ Y)) := by
        rw [← hL, dU, dW]; simp
      have hp1 : (X ++ W.take i).length = X.length + i := by rw [List.length_append, List.length_take]; omega
      have hm1 : (U.drop (i + 1) ++ (M ++ U.take i)).length = U.length - (i + 1) + (M.length + i) := by simp; omega
      have hi1 : L[X.length + i]? = some x := by rw [e0, ← hp1, List.getElem?_append_right (Nat.le_refl _), Nat.sub_self]; rfl
      have hj1 : L[X.length + U.length + M.length + i]? = some y := by
        rw [e0, List.getElem?_append_right (by omega), hp1, show X.length + U.length + M.length + i - (X.length + i) = (U.drop (i + 1) ++ (M ++ U.take i)).length + 1 by omega, List.getElem?_cons_succ, List.getElem?_append_right (Nat.le_refl _), Nat.sub_self]; rfl
      have hsw : swapL L (X.length + i) (X.length + U.length + M.length + i) = X ++ (W.take (i + 1) ++ (U.drop (i + 1) ++ (M ++ (U.take (i + 1) ++ (W.drop (i + 1) ++ Y))))) := by
        rw [e0, ← hp1, show X.length + U.length + M.length + i = (X ++ W.take i).length + 1 + (U.drop (i + 1) ++ (M ++ U.take i)).length by omega, swap_apart, tU, tW]
        simp
      rw [hL] at ka
      have hadd : add .i64 (i : Int) 1 = ((i + 1 : Nat) : Int) := by rw [add64 (by omega) (by omega)]; omega
      have hap : add .i64 (X.length : Int) (i : Int) = ((X.length + i : Nat) : Int) := by rw [add64 (by omega) (by omega)]; omega
      have haq : add .i64 ((X.length + U.length + M.length : Nat) : Int) (i : Int) = ((X.length + U.length + M.length + i : Nat) : Int) := by rw [add64 (by omega) (by omega)]; omega
      obtain ⟨h2, e2, fk2, ka2⟩ := ka_swap ka hi1 hj1 (fun h3 => some ((Ex.normal, [iv ((i + 1 : Nat) : Int)], h3) : Ex × List Value × H))
      rw [hsw] at ka2
      refine ⟨.normal, _, h2, ?_, .inl ⟨rfl, rfl, fk.trans fk2, ka2⟩⟩
      unfold f120_l1
      rw [show AM.gv [iv i] 0 = iv i from rfl, asI_int, lt_t (by omega), ifB_true, asI_int, asI_int, asI_int, haq, ka.get hj1, asI_int, hap, ka.get hi1]
      simp only [asI_int, hadd]
      exact e2)
    (by
      rintro ws g ⟨rfl, fk, ka⟩
      rw [List.take_of_length_le (show W.length ≤ U.length by omega), List.drop_length, List.take_length, List.drop_of_length_le (show W.length ≤ U.length by omega)] at ka
      refine ⟨.exit 0, [iv U.length], g, ?_, by simp, rfl, fk, by simpa using ka⟩
      unfold f120_l1
      rw [show AM.gv [iv U.length] 0 = iv U.length from rfl, asI_int, lt_f (by omega), ifB_false]
      rfl)
    (ws := [iv 0]) (h := h) (by omega) ⟨rfl, .refl _ _, by simpa using ka⟩
  obtain ⟨t1, t2⟩ := fk_trunc (w := undef) fk ka.lt ka'
  refine ⟨_, t120 (k := 2000) (v := undef) (h1 := h') ?_, t1, t2⟩
  unfold f120
  exact (lp_eq hlp).trans rfl

/-- Two ranges beside each other change places. -/
theorem s119 {h : H} {b : Nat} {v : Value} {X U V Y : List Kl} (ka : KA h b v (X ++ (U ++ (V ++ Y)))) (hu : U ≠ []) (hv : V ≠ []) (hm : X.length + U.length + V.length + Y.length ≤ 1000) {p q r : Int} (hp : p = X.length) (hq : q = ((X.length + U.length : Nat) : Int)) (hr : r = ((X.length + U.length + V.length : Nat) : Int)) :
    ∃ h', rn 119 #[v, iv p, iv q, iv r, cmpV] h = some (undef, h') ∧ Fk h h' b ∧ KA h' b v (X ++ (V ++ (U ++ Y))) := by
  subst hp hq hr
  have hu1 := List.length_pos_iff.2 hu
  have hv1 := List.length_pos_iff.2 hv
  obtain ⟨m, hmd⟩ : ∃ m : Nat, X.length + U.length = m := ⟨_, rfl⟩
  obtain ⟨tot, htd⟩ : ∃ t, X.length + U.length + V.length + Y.length = t := ⟨_, rfl⟩
  obtain ⟨e, ws', h', hlp, rfl, X', U', V', Y', hw, hlen, fk, ka', hU', hmm, hUV, htgt⟩ := lpGo_inv (F := f119_l1 rn 2000 v (m : Int) cmpV)
    (fun d ws g => ∃ X' U' V' Y' : List Kl, ws = [iv U'.length, iv V'.length] ∧ d = U'.length + V'.length ∧ Fk h g b ∧ KA g b v (X' ++ (U' ++ (V' ++ Y'))) ∧ 1 ≤ U'.length ∧ 1 ≤ V'.length ∧ X'.length + U'.length = m ∧ X'.length + U'.length + V'.length + Y'.length = tot ∧ X' ++ (V' ++ (U' ++ Y')) = X ++ (V ++ (U ++ Y)))
    (fun e ws g => e = .exit 0 ∧ ∃ X' U' V' Y' : List Kl, ws = [iv U'.length, iv V'.length] ∧ U'.length = V'.length ∧ Fk h g b ∧ KA g b v (X' ++ (U' ++ (V' ++ Y'))) ∧ X'.length + U'.length = m ∧ X'.length + U'.length + V'.length + Y'.length = tot ∧ 1 ≤ U'.length ∧ X' ++ (V' ++ (U' ++ Y')) = X ++ (V ++ (U ++ Y)))
    (by
      rintro d ws g ⟨X', U', V', Y', rfl, rfl, fk, ka, h1, h2, h3, h4, h5⟩
      have g0 : AM.gv [iv U'.length, iv V'.length] 0 = iv U'.length := rfl
      have g1 : AM.gv [iv U'.length, iv V'.length] 1 = iv V'.length := rfl
      by_cases heq : U'.length = V'.length
      · refine ⟨.exit 0, [iv U'.length, iv V'.length], g, ?_, .inr ⟨by simp, rfl, X', U', V', Y', rfl, heq, fk, ka, h3, h4, h1, h5⟩⟩
        unfold f119_l1
        rw [g0, g1, asI_int, asI_int, heq, show AM.eq (V'.length : Int) (V'.length : Int) = true by simp [AM.eq], show (!true) = false from rfl, ifB_false]
        rfl
      · have hne : AM.eq (U'.length : Int) (V'.length : Int) = false := by simp [AM.eq]; omega
        by_cases hlt : V'.length < U'.length
        · -- the beginning of the longer one
          obtain ⟨U1, hU1⟩ : ∃ U1, U1 = U'.take V'.length := ⟨_, rfl⟩
          obtain ⟨U2, hU2⟩ : ∃ U2, U2 = U'.drop V'.length := ⟨_, rfl⟩
          have hUU : U' = U1 ++ U2 := by rw [hU1, hU2, List.take_append_drop]
          have l1 : U1.length = V'.length := by rw [hU1, List.length_take]; omega
          have l2 : U2.length = U'.length - V'.length := by rw [hU2, List.length_drop]
          rw [hUU, List.append_assoc] at ka
          obtain ⟨g2, e2, fk2, ka2⟩ := s120 (X := X') (U := U1) (M := U2) (W := V') (Y := Y') ka (by omega) (by omega) (p := ((X'.length : Nat) : Int)) (q := (m : Int)) (n := (V'.length : Int)) rfl (by omega) (by omega)
          have hsub : AM.sub .i64 (m : Int) (U'.length : Int) = (X'.length : Int) := by rw [sub64 (by omega) (by omega)]; omega
          have hsub2 : AM.sub .i64 (U'.length : Int) (V'.length : Int) = (U2.length : Int) := by rw [sub64 (by omega) (by omega)]; omega
          refine ⟨.normal, [iv U2.length, iv V'.length], g2, ?_, .inl ⟨rfl, U2.length + V'.length, by omega, X' ++ V', U2, U1, Y', by rw [l1], by omega, fk.trans fk2, by simpa using ka2, by omega, by omega, by rw [List.length_append]; omega, by rw [List.length_append]; omega, ?_⟩⟩
          · unfold f119_l1
            rw [g0, g1, asI_int, asI_int, hne, show (!false) = true from rfl, ifB_true, asI_int, asI_int, lt_t (by omega), ifB_true, asI_int, hsub, calls_eq (xs := [v, iv X'.length, iv m, iv V'.length, cmpV]) e2, asI_int, asI_int, hsub2]
            rfl
          · rw [← h5, hUU]; simp
        · obtain ⟨V1, hV1⟩ : ∃ V1, V1 = V'.take (V'.length - U'.length) := ⟨_, rfl⟩
          obtain ⟨V2, hV2⟩ : ∃ V2, V2 = V'.drop (V'.length - U'.length) := ⟨_, rfl⟩
          have hVV : V' = V1 ++ V2 := by rw [hV1, hV2, List.take_append_drop]
          have l1 : V1.length = V'.length - U'.length := by rw [hV1, List.length_take]; omega
          have l2 : V2.length = U'.length := by rw [hV2, List.length_drop]; omega
          rw [hVV, List.append_assoc] at ka
          obtain ⟨g2, e2, fk2, ka2⟩ := s120 (X := X') (U := U') (M := V1) (W := V2) (Y := Y') ka (by omega) (by omega) (p := ((X'.length : Nat) : Int)) (q := ((m + V'.length - U'.length : Nat) : Int)) (n := (U'.length : Int)) rfl (by omega) rfl
          have hsub : AM.sub .i64 (m : Int) (U'.length : Int) = (X'.length : Int) := by rw [sub64 (by omega) (by omega)]; omega
          have hadd : add .i64 (m : Int) (V'.length : Int) = ((m + V'.length : Nat) : Int) := by rw [add64 (by omega) (by omega)]; omega
          have hsub3 : AM.sub .i64 ((m + V'.length : Nat) : Int) (U'.length : Int) = ((m + V'.length - U'.length : Nat) : Int) := by rw [sub64 (by omega) (by omega)]; omega
          have hsub2 : AM.sub .i64 (V'.length : Int) (U'.length : Int) = (V1.length : Int) := by rw [sub64 (by omega) (by omega)]; omega
          refine ⟨.normal, [iv U'.length, iv V1.length], g2, ?_, .inl ⟨rfl, U'.length + V1.length, by omega, X', V2, V1, U' ++ Y', by rw [l2], by omega, fk.trans fk2, by simpa using ka2, by omega, by omega, by omega, by rw [List.length_append]; omega, ?_⟩⟩
          · unfold f119_l1
            rw [g0, g1, asI_int, asI_int, hne, show (!false) = true from rfl, ifB_true, asI_int, asI_int, lt_f (by omega), ifB_false, asI_int, asI_int, asI_int, hsub, hadd, hsub3, calls_eq (xs := [v, iv X'.length, iv ((m + V'.length - U'.length : Nat) : Int), iv U'.length, cmpV]) e2, asI_int, asI_int, hsub2]
            rfl
          · rw [← h5, hVV]; simp)
    (U.length + V.length) 2000 (by omega) (ws := [iv U.length, iv V.length]) (h := h) ⟨X, U, V, Y, rfl, rfl, .refl _ _, ka, hu1, hv1, hmd, htd, rfl⟩
  obtain ⟨g2, e2, fk2, ka2⟩ := s120 (X := X') (U := U') (M := []) (W := V') (Y := Y') (by simpa using ka') (by omega) (by simp; omega) (p := (X'.length : Int)) (q := (m : Int)) (n := (U'.length : Int)) rfl (by simp; omega) rfl
  rw [List.nil_append, htgt] at ka2
  obtain ⟨t1, t2⟩ := fk_trunc (w := undef) (fk.trans fk2) ka.lt ka2
  have hs1 : AM.sub .i64 ((X.length + U.length : Nat) : Int) (X.length : Int) = (U.length : Int) := by rw [sub64 (by omega) (by omega)]; omega
  have hs2 : AM.sub .i64 ((X.length + U.length + V.length : Nat) : Int) ((X.length + U.length : Nat) : Int) = (V.length : Int) := by rw [sub64 (by omega) (by omega)]; omega
  have hs3 : AM.sub .i64 (m : Int) (U'.length : Int) = (X'.length : Int) := by rw [sub64 (by omega) (by omega)]; omega
  refine ⟨_, t119 (k := 2000) (v := undef) (h1 := g2) ?_, t1, t2⟩
  unfold f119
  rw [hs1, hs2, hmd]
  refine (lp_eq hlp).trans ?_
  rw [onE_exit, if_pos rfl, hw, show AM.gv [iv U'.length, iv V'.length] 0 = iv U'.length from rfl, asI_int, hs3, calls_eq (xs := [v, iv X'.length, iv m, iv U'.length, cmpV]) e2]

end Go.AM

end

section

/- Sorting: insertion. -/
namespace Go.AM
open Go.Proofs
variable {R : Type}
abbrev fsts (T : List Tg) : List Kl := T.map Prod.fst

/-- Times that are small. -/
def Sm40 (T : List Tg) : Prop := ∀ x ∈ T, 0 ≤ x.1.t ∧ x.1.t ≤ 1000

theorem get_fst {T : List Tg} {i : Nat} {x : Tg} (h : T[i]? = some x) : (fsts T)[i]? = some x.1 := by rw [List.getElem?_map, h]; rfl

set_option maxHeartbeats 1000000 in
theorem s117_l2 {h : H} {b : Nat} {v : Value} {X P1 P2 Z : List Tg} {x : Tg} (ka : KA h b v (fsts (X ++ (P1 ++ x :: (P2 ++ Z))))) (hs : Srt (P1 ++ P2)) (htg : ∀ y ∈ P1 ++ P2, y.2 < x.2) (h2 : ∀ y ∈ P2, ltT x y) (hsm : Sm40 (P1 ++ P2)) (hx : 0 ≤ x.1.t ∧ x.1.t ≤ 1000) (hl : X.length + P1.length + P2.length + Z.length ≤ 1000) {a j0 : Int} (ha : a = X.length) (hj0 : j0 = ((X.length + P1.length : Nat) : Int)) :
    ∃ h' w Q1 Q2, lpGo (f117_l2 rn 2000 v a cmpV) 2000 [iv j0] h = some (.exit 2, w, h') ∧ Fk h h' b ∧ KA h' b v (fsts (X ++ (Q1 ++ x :: (Q2 ++ Z)))) ∧ Q1 ++ Q2 = P1 ++ P2 ∧ (∀ y ∈ Q1, ltT y x) ∧ ∀ y ∈ Q2, ltT x y := by
  subst ha hj0
  obtain ⟨e, w, h', hlp, rfl, Q1, Q2, q1, q2, q3, q4, q5⟩ := lpGo_inv (F := f117_l2 rn 2000 v (X.length : Int) cmpV)
    (fun d ws g => ∃ Q1 Q2 : List Tg, d = Q1.length ∧ ws = [iv ((X.length + Q1.length : Nat) : Int)] ∧ Fk h g b ∧ KA g b v (fsts (X ++ (Q1 ++ x :: (Q2 ++ Z)))) ∧ Q1 ++ Q2 = P1 ++ P2 ∧ ∀ y ∈ Q2, ltT x y)
    (fun e _ g => e = .exit 2 ∧ ∃ Q1 Q2 : List Tg, Fk h g b ∧ KA g b v (fsts (X ++ (Q1 ++ x :: (Q2 ++ Z)))) ∧ Q1 ++ Q2 = P1 ++ P2 ∧ (∀ y ∈ Q1, ltT y x) ∧ ∀ y ∈ Q2, ltT x y)
    (by
      rintro d ws g ⟨Q1, Q2, rfl, rfl, fk, ka, hQ, hQ2⟩
      have hql : Q1.length + Q2.length = P1.length + P2.length := by
        have := congrArg List.length hQ
        rw [List.length_append, List.length_append] at this
        exact this
      have gv0 : AM.gv [iv ((X.length + Q1.length : Nat) : Int)] 0 = iv ((X.length + Q1.length : Nat) : Int) := rfl
      cases hQ1 : Q1 with
      | nil =>
        refine ⟨.exit 2, [iv ((X.length + Q1.length : Nat) : Int)], g, ?_, .inr ⟨by simp, rfl, [], Q2, fk, by rw [hQ1] at ka; exact ka, by rw [← hQ, hQ1], by simp, hQ2⟩⟩
        unfold f117_l2
        rw [show AM.gv [iv ((X.length + ([] : List Tg).length : Nat) : Int)] 0 = iv ((X.length + ([] : List Tg).length : Nat) : Int) from rfl, asI_int, lt_f (by simp), ifB_false, hQ1]
        rfl
      | cons z0 Q0 =>
        rw [← hQ1]
        obtain ⟨Q, y, hQy⟩ : ∃ Q y, Q1 = Q ++ [y] := ⟨Q1.dropLast, Q1.getLast (by rw [hQ1]; simp), (List.dropLast_concat_getLast (by rw [hQ1]; simp)).symm⟩
        subst hQy
        rw [List.length_append, List.length_singleton] at hql gv0 ⊢
        have hym : y ∈ P1 ++ P2 := by rw [← hQ]; simp
        have hy := hsm y hym
        have hyt := htg y hym
        have e0 : X ++ ((Q ++ [y]) ++ x :: (Q2 ++ Z)) = (X ++ Q) ++ y :: x :: (Q2 ++ Z) := by simp
        have hxl : (X ++ Q).length = X.length + Q.length := List.length_append
        have gx : (fsts (X ++ ((Q ++ [y]) ++ x :: (Q2 ++ Z))))[X.length + (Q.length + 1)]? = some x.1 := get_fst (by
          rw [e0, List.getElem?_append_right (by omega), hxl, show X.length + (Q.length + 1) - (X.length + Q.length) = 1 by omega]; rfl)
        have gy : (fsts (X ++ ((Q ++ [y]) ++ x :: (Q2 ++ Z))))[X.length + Q.length]? = some y.1 := get_fst (by
          rw [e0, List.getElem?_append_right (by omega), hxl, Nat.sub_self]; rfl)
        have hsub : AM.sub .i64 ((X.length + (Q.length + 1) : Nat) : Int) 1 = ((X.length + Q.length : Nat) : Int) := by rw [sub64 (by omega) (by omega)]; omega
        have pre : ∀ r, (ifB (AM.lt (x.1.t - y.1.t) 0) (
            six v ((X.length + (Q.length + 1) : Nat) : Int) 3 fun b8 b9 =>
            st Try.prog g 56 b8 b9 (.agg #[iv y.1.a, iv y.1.b, iv y.1.t]) fun h4 =>
            six v ((X.length + Q.length : Nat) : Int) 3 fun b10 b11 =>
            st Try.prog h4 56 b10 b11 (.agg #[iv x.1.a, iv x.1.b, iv x.1.t]) fun h5 =>
            some (Ex.normal, [iv ((X.length + Q.length : Nat) : Int)], h5)) (
            some (Ex.exit 2, [iv ((X.length + (Q.length + 1) : Nat) : Int)], g))) = r → f117_l2 rn 2000 v (X.length : Int) cmpV [iv ((X.length + (Q.length + 1) : Nat) : Int)] g = r := by
          intro r hr
          unfold f117_l2
          rw [gv0, asI_int, lt_t (by omega), ifB_true, asK_int, ka.get gx, asI_int, hsub, ka.get gy, kcmp x.1 y.1 hx hy, asI_int]
          simp only [asI_int, asK_int, hsub]
          rw [ka.get gy, ka.get gx]
          exact hr
        by_cases hlt : x.1.t < y.1.t
        · obtain ⟨g2, e2, fk2, ka2⟩ := ka_swap ka gx gy (fun h5 => some ((Ex.normal, [iv ((X.length + Q.length : Nat) : Int)], h5) : Ex × List Value × H))
          have hsw : swapL (fsts (X ++ ((Q ++ [y]) ++ x :: (Q2 ++ Z)))) (X.length + (Q.length + 1)) (X.length + Q.length) = fsts (X ++ (Q ++ x :: ((y :: Q2) ++ Z))) := by
            rw [swapL_map, e0, ← hxl, show X.length + (Q.length + 1) = (X ++ Q).length + 1 by omega, swap_next]
            simp
          rw [hsw] at ka2
          refine ⟨.normal, _, g2, pre _ ?_, .inl ⟨rfl, Q.length, by simp, Q, y :: Q2, rfl, rfl, fk.trans fk2, ka2, by rw [← hQ]; simp, fun z hz => ?_⟩⟩
          · rw [show AM.lt (x.1.t - y.1.t) 0 = true from lt_t (by omega), ifB_true]
            exact e2
          · rcases List.mem_cons.1 hz with rfl | hz
            · exact .inl hlt
            · exact hQ2 z hz
        · refine ⟨.exit 2, _, g, pre _ (by rw [show AM.lt (x.1.t - y.1.t) 0 = false from lt_f (by omega), ifB_false]), .inr ⟨by simp, rfl, Q ++ [y], Q2, fk, ka, hQ, ?_, hQ2⟩⟩
          refine last_before (srt_append.1 (by rw [hQ]; exact hs : Srt ((Q ++ [y]) ++ Q2))).1 ?_
          by_cases he : y.1.t = x.1.t
          · exact .inr ⟨he, hyt⟩
          · exact .inl (by omega))
    P1.length 2000 (by omega) (ws := [iv ((X.length + P1.length : Nat) : Int)]) (h := h) ⟨P1, P2, rfl, rfl, .refl _ _, ka, rfl, h2⟩
  exact ⟨h', w, Q1, Q2, hlp, q1, q2, q3, q4, q5⟩

/-- Places that rise. -/
def IncT (S : List Tg) : Prop := S.Pairwise fun x y => x.2 < y.2

theorem s117 {h : H} {b : Nat} {v : Value} {X S Y : List Tg} (ka : KA h b v (fsts (X ++ (S ++ Y)))) (hi : IncT S) (hsm : Sm40 S) (hl : X.length + S.length + Y.length ≤ 1000) {a c : Int} (ha : a = X.length) (hc : c = ((X.length + S.length : Nat) : Int)) :
    ∃ h' S', rn 117 #[v, iv a, iv c, cmpV] h = some (undef, h') ∧ Fk h h' b ∧ KA h' b v (fsts (X ++ (S' ++ Y))) ∧ S.Perm S' ∧ Srt S' := by
  subst ha hc
  have hadd0 : add .i64 (X.length : Int) 1 = ((X.length + 1 : Nat) : Int) := by rw [add64 (by omega) (by omega)]; omega
  cases hS : S with
  | nil =>
    subst hS
    have hlp : lpGo (f117_l1 rn 2000 v (X.length : Int) ((X.length + ([] : List Tg).length : Nat) : Int) cmpV) 2000 [iv ((X.length + 1 : Nat) : Int)] h = some (.exit 0, [iv ((X.length + 1 : Nat) : Int)], h) := by
      refine lpGo_exit (m := 1999) ?_
      unfold f117_l1
      rw [show AM.gv [iv ((X.length + 1 : Nat) : Int)] 0 = iv ((X.length + 1 : Nat) : Int) from rfl, asI_int, lt_f (by simp; omega), ifB_false]
      rfl
    obtain ⟨t1, t2⟩ := fk_trunc (w := undef) (.refl h b) ka.lt ka
    refine ⟨_, [], t117 (k := 2000) (v := undef) (h1 := h) ?_, t1, t2, .refl _, List.Pairwise.nil⟩
    unfold f117
    rw [hadd0]
    exact (lp_eq hlp).trans rfl
  | cons s0 Sr =>
    rw [← hS]
    have hSl : 1 ≤ S.length := by rw [hS]; simp
    obtain ⟨e, w, h', hlp, rfl, fk, P, hP, hPs, hPk⟩ := lp_range (F := f117_l1 rn 2000 v (X.length : Int) ((X.length + S.length : Nat) : Int) cmpV) (k := 2000) (n := S.length - 1)
      (fun i ws g => ws = [iv ((X.length + (i + 1) : Nat) : Int)] ∧ Fk h g b ∧ ∃ P : List Tg, KA g b v (fsts (X ++ (P ++ (S.drop (i + 1) ++ Y)))) ∧ Srt P ∧ (S.take (i + 1)).Perm P)
      (fun e _ g => e = .exit 0 ∧ Fk h g b ∧ ∃ P : List Tg, KA g b v (fsts (X ++ (P ++ Y))) ∧ Srt P ∧ S.Perm P)
      (by
        rintro i ws g hil ⟨rfl, fk, P, ka, hPs, hPp⟩
        have hx := List.getElem?_eq_getElem (show i + 1 < S.length by omega)
        generalize hxd : S[i + 1] = x at hx
        have dS : S.drop (i + 1) = x :: S.drop (i + 1 + 1) := by rw [List.drop_eq_getElem_cons (by omega), hxd]
        have hPl : P.length = i + 1 := by rw [← hPp.length_eq, List.length_take]; omega
        rw [dS] at ka
        have hxm : x ∈ S := List.mem_of_getElem? hx
        obtain ⟨g2, w2, Q1, Q2, e2, fk2, ka2, hQ, hq1, hq2⟩ := s117_l2 (X := X) (P1 := P) (P2 := []) (Z := S.drop (i + 1 + 1) ++ Y) (x := x) (a := (X.length : Int)) (j0 := ((X.length + (i + 1) : Nat) : Int)) (by simpa using ka) (by rw [List.append_nil]; exact hPs)
          (fun y hy => by
            rw [List.append_nil] at hy
            have hy' := hPp.mem_iff.2 hy
            obtain ⟨j, hj⟩ := List.getElem?_of_mem hy'
            have hjl := (List.getElem?_eq_some_iff.1 hj).1
            rw [List.length_take] at hjl
            rw [List.getElem?_take_of_lt (by omega)] at hj
            obtain ⟨j1, rfl⟩ := List.getElem?_eq_some_iff.1 hj
            obtain ⟨j2, rfl⟩ := List.getElem?_eq_some_iff.1 hx
            exact List.pairwise_iff_getElem.1 hi j (i + 1) j1 j2 (by omega))
          (by simp) (fun y hy => by
            rw [List.append_nil] at hy
            exact hsm y (List.mem_of_mem_take (hPp.mem_iff.2 hy))) (hsm x hxm) (by simp; omega) rfl (by rw [hPl])
        rw [List.append_nil] at hQ
        refine ⟨.normal, [iv ((X.length + (i + 1 + 1) : Nat) : Int)], g2, ?_, .inl ⟨rfl, rfl, fk.trans fk2, Q1 ++ x :: Q2, by simpa using ka2, insert_srt (by rw [hQ]; exact hPs) hq1 hq2, ?_⟩⟩
        · unfold f117_l1
          have hadd : add .i64 ((X.length + (i + 1) : Nat) : Int) 1 = ((X.length + (i + 1 + 1) : Nat) : Int) := by rw [add64 (by omega) (by omega)]; omega
          rw [show AM.gv [iv ((X.length + (i + 1) : Nat) : Int)] 0 = iv ((X.length + (i + 1) : Nat) : Int) from rfl, asI_int, lt_t (by omega), ifB_true, lp_eq e2, onE_exit, if_pos rfl, asI_int, hadd]
          rfl
        · rw [List.take_add_one, hx]
          refine (hPp.append_right _).trans ?_
          rw [← hQ]
          have : Q1 ++ Q2 ++ (some x).toList = Q1 ++ (Q2 ++ [x]) := by simp
          rw [this]
          exact List.Perm.append_left _ (List.perm_append_comm (l₁ := Q2) (l₂ := [x])))
      (by
        rintro ws g ⟨rfl, fk, P, ka, hPs, hPp⟩
        rw [show S.length - 1 + 1 = S.length by omega] at *
        rw [List.drop_length, List.nil_append] at ka
        rw [List.take_length] at hPp
        refine ⟨.exit 0, [iv ((X.length + S.length : Nat) : Int)], g, ?_, by simp, rfl, fk, P, ka, hPs, hPp⟩
        unfold f117_l1
        rw [show AM.gv [iv ((X.length + S.length : Nat) : Int)] 0 = iv ((X.length + S.length : Nat) : Int) from rfl, asI_int, lt_f (by omega), ifB_false]
        rfl)
      (ws := [iv ((X.length + 1 : Nat) : Int)]) (h := h) (by omega) ⟨rfl, .refl _ _, [s0], by rw [hS] at ka ⊢; simpa using ka, by simp [Srt], by rw [hS]; simp⟩
    obtain ⟨t1, t2⟩ := fk_trunc (w := undef) fk ka.lt hP
    refine ⟨_, P, t117 (k := 2000) (v := undef) (h1 := h') ?_, t1, t2, hPk, hPs⟩
    unfold f117
    rw [hadd0]
    exact (lp_eq hlp).trans rfl

end Go.AM

end

section

/- The staged forms of functions 118, and what calls of these answer. -/
namespace Go.AM
open Go.Proofs
noncomputable def f118_l1 (rec : Rec) (_k : Nat) (v0 : Value) (n0 : Int) (v1 : Value) (ws0 : List Value) (h1 : H) : Option (Ex × List Value × H) :=
  asI .i64 (gv ws0 0) fun n3 =>
  asI .i64 (gv ws0 1) fun n4 =>
  ifB (lt n3 n4) (
    asI .i64 (gv ws0 0) fun n5 =>
    asI .i64 (gv ws0 1) fun n6 =>
    nn 1 (
      six v0 (wr .i64 (shr .u64 (wr .u64 (add .i64 n5 n6)) 1)) 3 fun b0 b1 =>
      ld Try.prog h1 56 b0 b1 fun v2 =>
      six v0 n0 3 fun b2 b3 =>
      ld Try.prog h1 56 b2 b3 fun v3 =>
      callsV rec h1 v1 [v2, v3] fun v4 h2 =>
      asI .i64 v4 fun n7 =>
      ifB (lt n7 0) (
        out .normal [(.int .i64 (add .i64 (wr .i64 (shr .u64 (wr .u64 (add .i64 n5 n6)) 1)) 1)), gv ws0 1] h2) (
        out .normal [gv ws0 0, (.int .i64 (wr .i64 (shr .u64 (wr .u64 (add .i64 n5 n6)) 1)))] h2))) (
    out (.exit 0) [gv ws0 0, gv ws0 1] h1)

noncomputable def f118_l2 (_rec : Rec) (_k : Nat) (v0 : Value) (ws1 : List Value) (ws2 : List Value) (h4 : H) : Option (Ex × List Value × H) :=
  asI .i64 (gv ws1 0) fun n8 =>
  asI .i64 (gv ws2 0) fun n9 =>
  ifB (lt n9 (sub .i64 n8 1)) (
    asI .i64 (gv ws2 0) fun n10 =>
    asI .i64 (gv ws2 0) fun n11 =>
    six v0 (add .i64 n11 1) 3 fun b4 b5 =>
    ld Try.prog h4 56 b4 b5 fun v5 =>
    asK (gv ws2 0) fun n12 =>
    six v0 n12 3 fun b6 b7 =>
    ld Try.prog h4 56 b6 b7 fun v6 =>
    asK (gv ws2 0) fun n13 =>
    six v0 n13 3 fun b8 b9 =>
    st Try.prog h4 56 b8 b9 v5 fun h5 =>
    six v0 (add .i64 n10 1) 3 fun b10 b11 =>
    st Try.prog h5 56 b10 b11 v6 fun h6 =>
    asI .i64 (gv ws2 0) fun n14 =>
    out .normal [(.int .i64 (add .i64 n14 1))] h6) (
    out (.exit 2) [gv ws2 0] h4)

noncomputable def f118_l3 (rec : Rec) (_k : Nat) (v0 : Value) (n1 : Int) (v1 : Value) (ws4 : List Value) (h8 : H) : Option (Ex × List Value × H) :=
  asI .i64 (gv ws4 0) fun n15 =>
  asI .i64 (gv ws4 1) fun n16 =>
  ifB (lt n15 n16) (
    asI .i64 (gv ws4 0) fun n17 =>
    asI .i64 (gv ws4 1) fun n18 =>
    nn 1 (
      six v0 n1 3 fun b12 b13 =>
      ld Try.prog h8 56 b12 b13 fun v7 =>
      six v0 (wr .i64 (shr .u64 (wr .u64 (add .i64 n17 n18)) 1)) 3 fun b14 b15 =>
      ld Try.prog h8 56 b14 b15 fun v8 =>
      callsV rec h8 v1 [v7, v8] fun v9 h9 =>
      asI .i64 v9 fun n19 =>
      ifB (not (lt n19 0)) (
        out .normal [(.int .i64 (add .i64 (wr .i64 (shr .u64 (wr .u64 (add .i64 n17 n18)) 1)) 1)), gv ws4 1] h9) (
        out .normal [gv ws4 0, (.int .i64 (wr .i64 (shr .u64 (wr .u64 (add .i64 n17 n18)) 1)))] h9))) (
    out (.exit 4) [gv ws4 0, gv ws4 1] h8)

noncomputable def f118_l4 (_rec : Rec) (_k : Nat) (v0 : Value) (ws5 : List Value) (ws6 : List Value) (h11 : H) : Option (Ex × List Value × H) :=
  asI .i64 (gv ws6 0) fun n20 =>
  asI .i64 (gv ws5 0) fun n21 =>
  ifB (lt n21 n20) (
    asI .i64 (gv ws6 0) fun n22 =>
    asI .i64 (gv ws6 0) fun n23 =>
    six v0 (sub .i64 n23 1) 3 fun b16 b17 =>
    ld Try.prog h11 56 b16 b17 fun v10 =>
    asK (gv ws6 0) fun n24 =>
    six v0 n24 3 fun b18 b19 =>
    ld Try.prog h11 56 b18 b19 fun v11 =>
    asK (gv ws6 0) fun n25 =>
    six v0 n25 3 fun b20 b21 =>
    st Try.prog h11 56 b20 b21 v10 fun h12 =>
    six v0 (sub .i64 n22 1) 3 fun b22 b23 =>
    st Try.prog h12 56 b22 b23 v11 fun h13 =>
    asI .i64 (gv ws6 0) fun n26 =>
    out .normal [(.int .i64 (sub .i64 n26 1))] h13) (
    out (.exit 6) [gv ws6 0] h11)

noncomputable def f118_l5 (rec : Rec) (_k : Nat) (v0 : Value) (n0 : Int) (n1 : Int) (n2 : Int) (v1 : Value) (ws8 : List Value) (h15 : H) : Option (Ex × List Value × H) :=
  asI .i64 (gv ws8 0) fun n27 =>
  asI .i64 (gv ws8 1) fun n28 =>
  ifB (lt n27 n28) (
    asI .i64 (gv ws8 0) fun n29 =>
    asI .i64 (gv ws8 1) fun n30 =>
    nn 1 (
      six v0 (sub .i64 (sub .i64 (add .i64 (wr .i64 (shr .u64 (wr .u64 (add .i64 n0 n2)) 1)) n1) 1) (wr .i64 (shr .u64 (wr .u64 (add .i64 n29 n30)) 1))) 3 fun b24 b25 =>
      ld Try.prog h15 56 b24 b25 fun v12 =>
      six v0 (wr .i64 (shr .u64 (wr .u64 (add .i64 n29 n30)) 1)) 3 fun b26 b27 =>
      ld Try.prog h15 56 b26 b27 fun v13 =>
      callsV rec h15 v1 [v12, v13] fun v14 h16 =>
      asI .i64 v14 fun n31 =>
      ifB (not (lt n31 0)) (
        out .normal [(.int .i64 (add .i64 (wr .i64 (shr .u64 (wr .u64 (add .i64 n29 n30)) 1)) 1)), gv ws8 1] h16) (
        out .normal [gv ws8 0, (.int .i64 (wr .i64 (shr .u64 (wr .u64 (add .i64 n29 n30)) 1)))] h16))) (
    out (.exit 8) [gv ws8 0, gv ws8 1] h15)

noncomputable def f118_l6 (rec : Rec) (_k : Nat) (v0 : Value) (n0 : Int) (n1 : Int) (n2 : Int) (v1 : Value) (ws10 : List Value) (h31 : H) : Option (Ex × List Value × H) :=
  asI .i64 (gv ws10 0) fun n40 =>
  asI .i64 (gv ws10 1) fun n41 =>
  ifB (lt n40 n41) (
    asI .i64 (gv ws10 0) fun n42 =>
    asI .i64 (gv ws10 1) fun n43 =>
    nn 1 (
      six v0 (sub .i64 (sub .i64 (add .i64 (wr .i64 (shr .u64 (wr .u64 (add .i64 n0 n2)) 1)) n1) 1) (wr .i64 (shr .u64 (wr .u64 (add .i64 n42 n43)) 1))) 3 fun b28 b29 =>
      ld Try.prog h31 56 b28 b29 fun v28 =>
      six v0 (wr .i64 (shr .u64 (wr .u64 (add .i64 n42 n43)) 1)) 3 fun b30 b31 =>
      ld Try.prog h31 56 b30 b31 fun v29 =>
      callsV rec h31 v1 [v28, v29] fun v30 h32 =>
      asI .i64 v30 fun n44 =>
      ifB (not (lt n44 0)) (
        out .normal [(.int .i64 (add .i64 (wr .i64 (shr .u64 (wr .u64 (add .i64 n42 n43)) 1)) 1)), gv ws10 1] h32) (
        out .normal [gv ws10 0, (.int .i64 (wr .i64 (shr .u64 (wr .u64 (add .i64 n42 n43)) 1)))] h32))) (
    out (.exit 8) [gv ws10 0, gv ws10 1] h31)

noncomputable def f118 (rec : Rec) (k : Nat) (v0 : Value) (n0 : Int) (n1 : Int) (n2 : Int) (v1 : Value) (h0 : H) : Option (Value × H) :=
  ifB (eq (sub .i64 n1 n0) 1) (
    lp k (f118_l1 rec k v0 n0 v1) [(.int .i64 n1), (.int .i64 n2)] h0 fun e0 ws1 h3 =>
    onE e0 0 (
      lp k (f118_l2 rec k v0 ws1) [(.int .i64 n0)] h3 fun e1 _ h7 =>
      onE e1 2 (
        some (undef, h7)) (
        none)) (
      none)) (
    ifB (eq (sub .i64 n2 n1) 1) (
      lp k (f118_l3 rec k v0 n1 v1) [(.int .i64 n0), (.int .i64 n1)] h0 fun e2 ws5 h10 =>
      onE e2 4 (
        lp k (f118_l4 rec k v0 ws5) [(.int .i64 n1)] h10 fun e3 _ h14 =>
        onE e3 6 (
          some (undef, h14)) (
          none)) (
        none)) (
      nn 1 (
        ifB (lt (wr .i64 (shr .u64 (wr .u64 (add .i64 n0 n2)) 1)) n1) (
          lp k (f118_l5 rec k v0 n0 n1 n2 v1) [(.int .i64 (sub .i64 (add .i64 (wr .i64 (shr .u64 (wr .u64 (add .i64 n0 n2)) 1)) n1) n2)), (.int .i64 (wr .i64 (shr .u64 (wr .u64 (add .i64 n0 n2)) 1)))] h0 fun e4 ws9 h17 =>
          onE e4 8 (
            asI .i64 (gv ws9 0) fun n32 =>
            asI .i64 (gv ws9 0) fun n33 =>
            ifB (lt n33 n1) (
              ifB (lt n1 (sub .i64 (add .i64 (wr .i64 (shr .u64 (wr .u64 (add .i64 n0 n2)) 1)) n1) n32)) (
                calls rec h17 119 [v0, gv ws9 0, (.int .i64 n1), (.int .i64 (sub .i64 (add .i64 (wr .i64 (shr .u64 (wr .u64 (add .i64 n0 n2)) 1)) n1) n32)), v1] fun _ h18 =>
                asI .i64 (gv ws9 0) fun n34 =>
                ifB (lt n0 n34) (
                  asI .i64 (gv ws9 0) fun n35 =>
                  ifB (lt n35 (wr .i64 (shr .u64 (wr .u64 (add .i64 n0 n2)) 1))) (
                    calls rec h18 118 [v0, (.int .i64 n0), gv ws9 0, (.int .i64 (wr .i64 (shr .u64 (wr .u64 (add .i64 n0 n2)) 1))), v1] fun _ h19 =>
                    ifB (lt (wr .i64 (shr .u64 (wr .u64 (add .i64 n0 n2)) 1)) (sub .i64 (add .i64 (wr .i64 (shr .u64 (wr .u64 (add .i64 n0 n2)) 1)) n1) n32)) (
                      ifB (lt (sub .i64 (add .i64 (wr .i64 (shr .u64 (wr .u64 (add .i64 n0 n2)) 1)) n1) n32) n2) (
                        calls rec h19 118 [v0, (.int .i64 (wr .i64 (shr .u64 (wr .u64 (add .i64 n0 n2)) 1))), (.int .i64 (sub .i64 (add .i64 (wr .i64 (shr .u64 (wr .u64 (add .i64 n0 n2)) 1)) n1) n32)), (.int .i64 n2), v1] fun _ h20 =>
                        some (undef, h20)) (
                        some (undef, h19))) (
                      some (undef, h19))) (
                    ifB (lt (wr .i64 (shr .u64 (wr .u64 (add .i64 n0 n2)) 1)) (sub .i64 (add .i64 (wr .i64 (shr .u64 (wr .u64 (add .i64 n0 n2)) 1)) n1) n32)) (
                      ifB (lt (sub .i64 (add .i64 (wr .i64 (shr .u64 (wr .u64 (add .i64 n0 n2)) 1)) n1) n32) n2) (
                        calls rec h18 118 [v0, (.int .i64 (wr .i64 (shr .u64 (wr .u64 (add .i64 n0 n2)) 1))), (.int .i64 (sub .i64 (add .i64 (wr .i64 (shr .u64 (wr .u64 (add .i64 n0 n2)) 1)) n1) n32)), (.int .i64 n2), v1] fun _ h21 =>
                        some (undef, h21)) (
                        some (undef, h18))) (
                      some (undef, h18)))) (
                  ifB (lt (wr .i64 (shr .u64 (wr .u64 (add .i64 n0 n2)) 1)) (sub .i64 (add .i64 (wr .i64 (shr .u64 (wr .u64 (add .i64 n0 n2)) 1)) n1) n32)) (
                    ifB (lt (sub .i64 (add .i64 (wr .i64 (shr .u64 (wr .u64 (add .i64 n0 n2)) 1)) n1) n32) n2) (
                      calls rec h18 118 [v0, (.int .i64 (wr .i64 (shr .u64 (wr .u64 (add .i64 n0 n2)) 1))), (.int .i64 (sub .i64 (add .i64 (wr .i64 (shr .u64 (wr .u64 (add .i64 n0 n2)) 1)) n1) n32)), (.int .i64 n2), v1] fun _ h22 =>
                      some (undef, h22)) (
                      some (undef, h18))) (
                    some (undef, h18)))) (
                asI .i64 (gv ws9 0) fun n36 =>
                ifB (lt n0 n36) (
                  asI .i64 (gv ws9 0) fun n37 =>
                  ifB (lt n37 (wr .i64 (shr .u64 (wr .u64 (add .i64 n0 n2)) 1))) (
                    calls rec h17 118 [v0, (.int .i64 n0), gv ws9 0, (.int .i64 (wr .i64 (shr .u64 (wr .u64 (add .i64 n0 n2)) 1))), v1] fun _ h23 =>
                    ifB (lt (wr .i64 (shr .u64 (wr .u64 (add .i64 n0 n2)) 1)) (sub .i64 (add .i64 (wr .i64 (shr .u64 (wr .u64 (add .i64 n0 n2)) 1)) n1) n32)) (
                      ifB (lt (sub .i64 (add .i64 (wr .i64 (shr .u64 (wr .u64 (add .i64 n0 n2)) 1)) n1) n32) n2) (
                        calls rec h23 118 [v0, (.int .i64 (wr .i64 (shr .u64 (wr .u64 (add .i64 n0 n2)) 1))), (.int .i64 (sub .i64 (add .i64 (wr .i64 (shr .u64 (wr .u64 (add .i64 n0 n2)) 1)) n1) n32)), (.int .i64 n2), v1] fun _ h24 =>
                        some (undef, h24)) (
                        some (undef, h23))) (
                      some (undef, h23))) (
                    ifB (lt (wr .i64 (shr .u64 (wr .u64 (add .i64 n0 n2)) 1)) (sub .i64 (add .i64 (wr .i64 (shr .u64 (wr .u64 (add .i64 n0 n2)) 1)) n1) n32)) (
                      ifB (lt (sub .i64 (add .i64 (wr .i64 (shr .u64 (wr .u64 (add .i64 n0 n2)) 1)) n1) n32) n2) (
                        calls rec h17 118 [v0, (.int .i64 (wr .i64 (shr .u64 (wr .u64 (add .i64 n0 n2)) 1))), (.int .i64 (sub .i64 (add .i64 (wr .i64 (shr .u64 (wr .u64 (add .i64 n0 n2)) 1)) n1) n32)), (.int .i64 n2), v1] fun _ h25 =>
                        some (undef, h25)) (
                        some (undef, h17))) (
                      some (undef, h17)))) (
                  ifB (lt (wr .i64 (shr .u64 (wr .u64 (add .i64 n0 n2)) 1)) (sub .i64 (add .i64 (wr .i64 (shr .u64 (wr .u64 (add .i64 n0 n2)) 1)) n1) n32)) (
                    ifB (lt (sub .i64 (add .i64 (wr .i64 (shr .u64 (wr .u64 (add .i64 n0 n2)) 1)) n1) n32) n2) (
                      calls rec h17 118 [v0, (.int .i64 (wr .i64 (shr .u64 (wr .u64 (add .i64 n0 n2)) 1))), (.int .i64 (sub .i64 (add .i64 (wr .i64 (shr .u64 (wr .u64 (add .i64 n0 n2)) 1)) n1) n32)), (.int .i64 n2), v1] fun _ h26 =>
                      some (undef, h26)) (
                      some (undef, h17))) (
                    some (undef, h17))))) (
              asI .i64 (gv ws9 0) fun n38 =>
              ifB (lt n0 n38) (
                asI .i64 (gv ws9 0) fun n39 =>
                ifB (lt n39 (wr .i64 (shr .u64 (wr .u64 (add .i64 n0 n2)) 1))) (
                  calls rec h17 118 [v0, (.int .i64 n0), gv ws9 0, (.int .i64 (wr .i64 (shr .u64 (wr .u64 (add .i64 n0 n2)) 1))), v1] fun _ h27 =>
                  ifB (lt (wr .i64 (shr .u64 (wr .u64 (add .i64 n0 n2)) 1)) (sub .i64 (add .i64 (wr .i64 (shr .u64 (wr .u64 (add .i64 n0 n2)) 1)) n1) n32)) (
                    ifB (lt (sub .i64 (add .i64 (wr .i64 (shr .u64 (wr .u64 (add .i64 n0 n2)) 1)) n1) n32) n2) (
                      calls rec h27 118 [v0, (.int .i64 (wr .i64 (shr .u64 (wr .u64 (add .i64 n0 n2)) 1))), (.int .i64 (sub .i64 (add .i64 (wr .i64 (shr .u64 (wr .u64 (add .i64 n0 n2)) 1)) n1) n32)), (.int .i64 n2), v1] fun _ h28 =>
                      some (undef, h28)) (
                      some (undef, h27))) (
                    some (undef, h27))) (
                  ifB (lt (wr .i64 (shr .u64 (wr .u64 (add .i64 n0 n2)) 1)) (sub .i64 (add .i64 (wr .i64 (shr .u64 (wr .u64 (add .i64 n0 n2)) 1)) n1) n32)) (
                    ifB (lt (sub .i64 (add .i64 (wr .i64 (shr .u64 (wr .u64 (add .i64 n0 n2)) 1)) n1) n32) n2) (
                      calls rec h17 118 [v0, (.int .i64 (wr .i64 (shr .u64 (wr .u64 (add .i64 n0 n2)) 1))), (.int .i64 (sub .i64 (add .i64 (wr .i64 (shr .u64 (wr .u64 (add .i64 n0 n2)) 1)) n1) n32)), (.int .i64 n2), v1] fun _ h29 =>
                      some (undef, h29)) (
                      some (undef, h17))) (
                    some (undef, h17)))) (
                ifB (lt (wr .i64 (shr .u64 (wr .u64 (add .i64 n0 n2)) 1)) (sub .i64 (add .i64 (wr .i64 (shr .u64 (wr .u64 (add .i64 n0 n2)) 1)) n1) n32)) (
                  ifB (lt (sub .i64 (add .i64 (wr .i64 (shr .u64 (wr .u64 (add .i64 n0 n2)) 1)) n1) n32) n2) (
                    calls rec h17 118 [v0, (.int .i64 (wr .i64 (shr .u64 (wr .u64 (add .i64 n0 n2)) 1))), (.int .i64 (sub .i64 (add .i64 (wr .i64 (shr .u64 (wr .u64 (add .i64 n0 n2)) 1)) n1) n32)), (.int .i64 n2), v1] fun _ h30 =>
                    some (undef, h30)) (
                    some (undef, h17))) (
                  some (undef, h17))))) (
            none)) (
          lp k (f118_l6 rec k v0 n0 n1 n2 v1) [(.int .i64 n0), (.int .i64 n1)] h0 fun e5 ws11 h33 =>
          onE e5 8 (
            asI .i64 (gv ws11 0) fun n45 =>
            asI .i64 (gv ws11 0) fun n46 =>
            ifB (lt n46 n1) (
              ifB (lt n1 (sub .i64 (add .i64 (wr .i64 (shr .u64 (wr .u64 (add .i64 n0 n2)) 1)) n1) n45)) (
                calls rec h33 119 [v0, gv ws11 0, (.int .i64 n1), (.int .i64 (sub .i64 (add .i64 (wr .i64 (shr .u64 (wr .u64 (add .i64 n0 n2)) 1)) n1) n45)), v1] fun _ h34 =>
                asI .i64 (gv ws11 0) fun n47 =>
                ifB (lt n0 n47) (
                  asI .i64 (gv ws11 0) fun n48 =>
                  ifB (lt n48 (wr .i64 (shr .u64 (wr .u64 (add .i64 n0 n2)) 1))) (
                    calls rec h34 118 [v0, (.int .i64 n0), gv ws11 0, (.int .i64 (wr .i64 (shr .u64 (wr .u64 (add .i64 n0 n2)) 1))), v1] fun _ h35 =>
                    ifB (lt (wr .i64 (shr .u64 (wr .u64 (add .i64 n0 n2)) 1)) (sub .i64 (add .i64 (wr .i64 (shr .u64 (wr .u64 (add .i64 n0 n2)) 1)) n1) n45)) (
                      ifB (lt (sub .i64 (add .i64 (wr .i64 (shr .u64 (wr .u64 (add .i64 n0 n2)) 1)) n1) n45) n2) (
                        calls rec h35 118 [v0, (.int .i64 (wr .i64 (shr .u64 (wr .u64 (add .i64 n0 n2)) 1))), (.int .i64 (sub .i64 (add .i64 (wr .i64 (shr .u64 (wr .u64 (add .i64 n0 n2)) 1)) n1) n45)), (.int .i64 n2), v1] fun _ h36 =>
                        some (undef, h36)) (
                        some (undef, h35))) (
                      some (undef, h35))) (
                    ifB (lt (wr .i64 (shr .u64 (wr .u64 (add .i64 n0 n2)) 1)) (sub .i64 (add .i64 (wr .i64 (shr .u64 (wr .u64 (add .i64 n0 n2)) 1)) n1) n45)) (
                      ifB (lt (sub .i64 (add .i64 (wr .i64 (shr .u64 (wr .u64 (add .i64 n0 n2)) 1)) n1) n45) n2) (
                        calls rec h34 118 [v0, (.int .i64 (wr .i64 (shr .u64 (wr .u64 (add .i64 n0 n2)) 1))), (.int .i64 (sub .i64 (add .i64 (wr .i64 (shr .u64 (wr .u64 (add .i64 n0 n2)) 1)) n1) n45)), (.int .i64 n2), v1] fun _ h37 =>
                        some (undef, h37)) (
                        some (undef, h34))) (
                      some (undef, h34)))) (
                  ifB (lt (wr .i64 (shr .u64 (wr .u64 (add .i64 n0 n2)) 1)) (sub .i64 (add .i64 (wr .i64 (shr .u64 (wr .u64 (add .i64 n0 n2)) 1)) n1) n45)) (
                    ifB (lt (sub .i64 (add .i64 (wr .i64 (shr .u64 (wr .u64 (add .i64 n0 n2)) 1)) n1) n45) n2) (
                      calls rec h34 118 [v0, (.int .i64 (wr .i64 (shr .u64 (wr .u64 (add .i64 n0 n2)) 1))), (.int .i64 (sub .i64 (add .i64 (wr .i64 (shr .u64 (wr .u64 (add .i64 n0 n2)) 1)) n1) n45)), (.int .i64 n2), v1] fun _ h38 =>
                      some (undef, h38)) (
                      some (undef, h34))) (
                    some (undef, h34)))) (
                asI .i64 (gv ws11 0) fun n49 =>
                ifB (lt n0 n49) (
                  asI .i64 (gv ws11 0) fun n50 =>
                  ifB (lt n50 (wr .i64 (shr .u64 (wr .u64 (add .i64 n0 n2)) 1))) (
                    calls rec h33 118 [v0, (.int .i64 n0), gv ws11 0, (.int .i64 (wr .i64 (shr .u64 (wr .u64 (add .i64 n0 n2)) 1))), v1] fun _ h39 =>
                    ifB (lt (wr .i64 (shr .u64 (wr .u64 (add .i64 n0 n2)) 1)) (sub .i64 (add .i64 (wr .i64 (shr .u64 (wr .u64 (add .i64 n0 n2)) 1)) n1) n45)) (
                      ifB (lt (sub .i64 (add .i64 (wr .i64 (shr .u64 (wr .u64 (add .i64 n0 n2)) 1)) n1) n45) n2) (
                        calls rec h39 118 [v0, (.int .i64 (wr .i64 (shr .u64 (wr .u64 (add .i64 n0 n2)) 1))), (.int .i64 (sub .i64 (add .i64 (wr .i64 (shr .u64 (wr .u64 (add .i64 n0 n2)) 1)) n1) n45)), (.int .i64 n2), v1] fun _ h40 =>
                        some (undef, h40)) (
                        some (undef, h39))) (
                      some (undef, h39))) (
                    ifB (lt (wr .i64 (shr .u64 (wr .u64 (add .i64 n0 n2)) 1)) (sub .i64 (add .i64 (wr .i64 (shr .u64 (wr .u64 (add .i64 n0 n2)) 1)) n1) n45)) (
                      ifB (lt (sub .i64 (add .i64 (wr .i64 (shr .u64 (wr .u64 (add .i64 n0 n2)) 1)) n1) n45) n2) (
                        calls rec h33 118 [v0, (.int .i64 (wr .i64 (shr .u64 (wr .u64 (add .i64 n0 n2)) 1))), (.int .i64 (sub .i64 (add .i64 (wr .i64 (shr .u64 (wr .u64 (add .i64 n0 n2)) 1)) n1) n45)), (.int .i64 n2), v1] fun _ h41 =>
                        some (undef, h41)) (
                        some (undef, h33))) (
                      some (undef, h33)))) (
                  ifB (lt (wr .i64 (shr .u64 (wr .u64 (add .i64 n0 n2)) 1)) (sub .i64 (add .i64 (wr .i64 (shr .u64 (wr .u64 (add .i64 n0 n2)) 1)) n1) n45)) (
                    ifB (lt (sub .i64 (add .i64 (wr .i64 (shr .u64 (wr .u64 (add .i64 n0 n2)) 1)) n1) n45) n2) (
                      calls rec h33 118 [v0, (.int .i64 (wr .i64 (shr .u64 (wr .u64 (add .i64 n0 n2)) 1))), (.int .i64 (sub .i64 (add .i64 (wr .i64 (shr .u64 (wr .u64 (add .i64 n0 n2)) 1)) n1) n45)), (.int .i64 n2), v1] fun _ h42 =>
                      some (undef, h42)) (
                      some (undef, h33))) (
                    some (undef, h33))))) (
              asI .i64 (gv ws11 0) fun n51 =>
              ifB (lt n0 n51) (
                asI .i64 (gv ws11 0) fun n52 =>
                ifB (lt n52 (wr .i64 (shr .u64 (wr .u64 (add .i64 n0 n2)) 1))) (
                  calls rec h33 118 [v0, (.int .i64 n0), gv ws11 0, (.int .i64 (wr .i64 (shr .u64 (wr .u64 (add .i64 n0 n2)) 1))), v1] fun _ h43 =>
                  ifB (lt (wr .i64 (shr .u64 (wr .u64 (add .i64 n0 n2)) 1)) (sub .i64 (add .i64 (wr .i64 (shr .u64 (wr .u64 (add .i64 n0 n2)) 1)) n1) n45)) (
                    ifB (lt (sub .i64 (add .i64 (wr .i64 (shr .u64 (wr .u64 (add .i64 n0 n2)) 1)) n1) n45) n2) (
                      calls rec h43 118 [v0, (.int .i64 (wr .i64 (shr .u64 (wr .u64 (add .i64 n0 n2)) 1))), (.int .i64 (sub .i64 (add .i64 (wr .i64 (shr .u64 (wr .u64 (add .i64 n0 n2)) 1)) n1) n45)), (.int .i64 n2), v1] fun _ h44 =>
                      some (undef, h44)) (
                      some (undef, h43))) (
                    some (undef, h43))) (
                  ifB (lt (wr .i64 (shr .u64 (wr .u64 (add .i64 n0 n2)) 1)) (sub .i64 (add .i64 (wr .i64 (shr .u64 (wr .u64 (add .i64 n0 n2)) 1)) n1) n45)) (
                    ifB (lt (sub .i64 (add .i64 (wr .i64 (shr .u64 (wr .u64 (add .i64 n0 n2)) 1)) n1) n45) n2) (
                      calls rec h33 118 [v0, (.int .i64 (wr .i64 (shr .u64 (wr .u64 (add .i64 n0 n2)) 1))), (.int .i64 (sub .i64 (add .i64 (wr .i64 (shr .u64 (wr .u64 (add .i64 n0 n2)) 1)) n1) n45)), (.int .i64 n2), v1] fun _ h45 =>
                      some (undef, h45)) (
                      some (undef, h33))) (
                    some (undef, h33)))) (
                ifB (lt (wr .i64 (shr .u64 (wr .u64 (add .i64 n0 n2)) 1)) (sub .i64 (add .i64 (wr .i64 (shr .u64 (wr .u64 (add .i64 n0 n2)) 1)) n1) n45)) (
                  ifB (lt (sub .i64 (add .i64 (wr .i64 (shr .u64 (wr .u64 (add .i64 n0 n2)) 1)) n1) n45) n2) (
                    calls rec h33 118 [v0, (.int .i64 (wr .i64 (shr .u64 (wr .u64 (add .i64 n0 n2)) 1))), (.int .i64 (sub .i64 (add .i64 (wr .i64 (shr .u64 (wr .u64 (add .i64 n0 n2)) 1)) n1) n45)), (.int .i64 n2), v1] fun _ h46 =>
                    some (undef, h46)) (
                    some (undef, h33))) (
                  some (undef, h33))))) (
            none)))))

theorem e118 (rec : Rec) (k : Nat) (v0 : Value) (n0 : Int) (n1 : Int) (n2 : Int) (v1 : Value) (h : H) : bodyT Try.prog E0 SC (XC Try.prog rec k) 118 (Value × H) [.opq v0, .int .i64 n0, .int .i64 n1, .int .i64 n2, .opq v1] h (fun v h => some (v, h)) = f118 rec k v0 n0 n1 n2 v1 h := by kernel_rfl

theorem t118 {k : Nat} {v0 : Value} {n0 : Int} {n1 : Int} {n2 : Int} {v1 : Value} {h h1 : H} {v : Value} (hh : f118 rn k v0 n0 n1 n2 v1 h = some (v, h1)) : rn 118 #[v0, .int .i64 n0, .int .i64 n1, .int .i64 n2, v1] h = some (v, trunc Try.prog h h1 v) :=
  run_of_bodyT (args := [.opq v0, .int .i64 n0, .int .i64 n1, .int .i64 n2, .opq v1]) rfl ((e118 _ _ _ _ _ _ _ _).trans hh)

end Go.AM

end

section

/- Sorting: merging in place. -/
namespace Go.AM
open Go.Proofs
variable {R : Type}
theorem mid_calc {i j : Nat} (h : i + j < 2 ^ 60) : wr .i64 (shr .u64 (wr .u64 (add .i64 (i : Int) (j : Int))) 1) = (((i + j) / 2 : Nat) : Int) := by
  rw [add64 (by omega) (by omega)]
  have h1 : wr .u64 ((i : Int) + (j : Int)) = ((i + j : Nat) : Int) := by
    show ((i : Int) + (j : Int)) % 2 ^ 64 = _
    omega
  rw [h1]
  have h2 : shr .u64 ((i + j : Nat) : Int) 1 = (((i + j) / 2 : Nat) : Int) := by
    unfold shr
    simp
    rw [show (2 : Int) ^ min 1 IntKind.u64.bits = 2 from rfl, Int.fdiv_eq_ediv_of_nonneg _ (by omega)]
  rw [h2]
  unfold wr
  rw [wrap64 (by omega) (by omega)]

/-- Places of one list are ahead of those of another. -/
def TgB (A B : List Tg) : Prop := ∀ x ∈ A, ∀ y ∈ B, x.2 < y.2

theorem lt_right {x y : Tg} (h : x.2 < y.2) : y.1.t < x.1.t ↔ ltT y x := by unfold ltT; omega

theorem lt_left {x y : Tg} (h : x.2 < y.2) : ¬ y.1.t < x.1.t ↔ ltT x y := by unfold ltT; omega

theorem app_get {α : Type} {X L : List α} {i : Nat} {x : α} (h : L[i]? = some x) : (X ++ L)[X.length + i]? = some x := by
  rw [List.getElem?_append_right (by omega), show X.length + i - X.length = i by omega]; exact h

theorem app_get0 {α : Type} {A L : List α} {i : Nat} {x : α} (h : A[i]? = some x) : (A ++ L)[i]? = some x := by
  rw [List.getElem?_append_left (List.getElem?_eq_some_iff.1 h).1]; exact h

/-! ### One element on the left -/
theorem s118_l1 {h : H} {b : Nat} {v : Value} {X B Y : List Tg} {x : Tg} (ka : KA h b v (fsts (X ++ x :: (B ++ Y)))) (hB : Srt B) (htg : ∀ y ∈ B, x.2 < y.2) (hsm : Sm40 (x :: B)) (hl : X.length + B.length + Y.length ≤ 900) {a m c : Int} (ha : a = X.length) (hm : m = ((X.length + 1 : Nat) : Int)) (hc : c = ((X.length + 1 + B.length : Nat) : Int)) :
    ∃ i z, i ≤ B.length ∧ lpGo (f118_l1 rn 2000 v a cmpV) 2000 [iv m, iv c] h = some (.exit 0, [iv ((X.length + 1 + i : Nat) : Int), z], h) ∧ (∀ j y, j < i → B[j]? = some y → ltT y x) ∧ ∀ j y, i ≤ j → B[j]? = some y → ltT x y := by
  subst ha hm hc
  obtain ⟨e, w, h', hlp, rfl, rfl, i, z, rfl, hi, h1, h2⟩ := lpGo_inv (F := f118_l1 rn 2000 v (X.length : Int) cmpV)
    (fun d ws g => g = h ∧ ∃ i j : Nat, d = j - i ∧ ws = [iv ((X.length + 1 + i : Nat) : Int), iv ((X.length + 1 + j : Nat) : Int)] ∧ i ≤ j ∧ j ≤ B.length ∧ (∀ c y, c < i → B[c]? = some y → ltT y x) ∧ ∀ c y, j ≤ c → B[c]? = some y → ltT x y)
    (fun e ws g => e = .exit 0 ∧ g = h ∧ ∃ (i : Nat) (z : Value), ws = [iv ((X.length + 1 + i : Nat) : Int), z] ∧ i ≤ B.length ∧ (∀ c y, c < i → B[c]? = some y → ltT y x) ∧ ∀ c y, i ≤ c → B[c]? = some y → ltT x y)
    (by
      rintro d ws g ⟨rfl, i, j, rfl, rfl, hij, hj, h1, h2⟩
      have g0 : AM.gv [iv ((X.length + 1 + i : Nat) : Int), iv ((X.length + 1 + j : Nat) : Int)] 0 = iv ((X.length + 1 + i : Nat) : Int) := rfl
      have g1 : AM.gv [iv ((X.length + 1 + i : Nat) : Int), iv ((X.length + 1 + j : Nat) : Int)] 1 = iv ((X.length + 1 + j : Nat) : Int) := rfl
      by_cases hlt : i < j
      · obtain ⟨k, hk⟩ : ∃ k, (X.length + 1 + i + (X.length + 1 + j)) / 2 = X.length + 1 + k := ⟨(X.length + 1 + i + (X.length + 1 + j)) / 2 - (X.length + 1), by omega⟩
        have hki : i ≤ k ∧ k < j := by omega
        have hy := List.getElem?_eq_getElem (show k < B.length by omega)
        generalize hyd : B[k] = y at hy
        have hym := List.mem_of_getElem? hy
        have hmid := mid_calc (i := X.length + 1 + i) (j := X.length + 1 + j) (by omega)
        rw [hk] at hmid
        have gy : (fsts (X ++ x :: (B ++ Y)))[X.length + 1 + k]? = some y.1 := get_fst (by
          rw [show X.length + 1 + k = X.length + (k + 1) by omega]
          exact app_get (by rw [List.getElem?_cons_succ]; exact app_get0 hy))
        have gx : (fsts (X ++ x :: (B ++ Y)))[X.length]? = some x.1 := get_fst (app_get (i := 0) rfl)
        have hty := hsm y (List.mem_cons_of_mem _ hym)
        have htx := hsm x List.mem_cons_self
        have hadd : add .i64 ((X.length + 1 + k : Nat) : Int) 1 = ((X.length + 1 + (k + 1) : Nat) : Int) := by rw [add64 (by omega) (by omega)]; omega
        have pre : ∀ r, (ifB (AM.lt (y.1.t - x.1.t) 0) (some (Ex.normal, [iv ((X.length + 1 + (k + 1) : Nat) : Int), iv ((X.length + 1 + j : Nat) : Int)], g)) (some (Ex.normal, [iv ((X.length + 1 + i : Nat) : Int), iv ((X.length + 1 + k : Nat) : Int)], g))) = r → f118_l1 rn 2000 v (X.length : Int) cmpV [iv ((X.length + 1 + i : Nat) : Int), iv ((X.length + 1 + j : Nat) : Int)] g = r := by
          intro r hr
          unfold f118_l1
          rw [g0, g1, asI_int, asI_int, lt_t (by omega), ifB_true, asI_int, asI_int, nn_ge (show (0 : Int) ≤ 1 by omega), hmid, ka.get gy, ka.get gx, kcmp y.1 x.1 hty htx, asI_int, hadd]
          exact hr
        by_cases hc : y.1.t < x.1.t
        · have hyx := (lt_right (htg y hym)).1 hc
          refine ⟨.normal, _, g, pre _ (by rw [lt_t (by omega), ifB_true]), .inl ⟨rfl, j - (k + 1), by omega, rfl, k + 1, j, rfl, rfl, by omega, hj, fun c z hc hz => ?_, h2⟩⟩
          by_cases hck : c = k
          · rw [hck, hy] at hz; cases hz; exact hyx
          · exact (srt_get hB hz hy (by omega)).trans hyx
        · have hxy := (lt_left (htg y hym)).1 hc
          refine ⟨.normal, _, g, pre _ (by rw [lt_f (by omega), ifB_false]), .inl ⟨rfl, k - i, by omega, rfl, i, k, rfl, rfl, by omega, by omega, h1, fun c z hc hz => ?_⟩⟩
          by_cases hck : c = k
          · rw [hck, hy] at hz; cases hz; exact hxy
          · exact hxy.trans (srt_get hB hy hz (by omega))
      · obtain rfl : i = j := by omega
        refine ⟨.exit 0, [iv ((X.length + 1 + i : Nat) : Int), iv ((X.length + 1 + i : Nat) : Int)], g, ?_, .inr ⟨by simp, rfl, rfl, i, _, rfl, hj, h1, h2⟩⟩
        unfold f118_l1
        rw [g0, g1, asI_int, asI_int, lt_f (by omega), ifB_false]
        rfl)
    B.length 2000 (by omega) (ws := [iv ((X.length + 1 : Nat) : Int), iv ((X.length + 1 + B.length : Nat) : Int)]) (h := h) ⟨rfl, 0, B.length, rfl, rfl, by omega, by omega, fun c y hc => by omega, fun c y hc hy => by have := (List.getElem?_eq_some_iff.1 hy).1; omega⟩
  exact ⟨i, z, hi, hlp, h1, h2⟩

theorem s118_l2 {h : H} {b : Nat} {v : Value} {X B Y : List Tg} {x : Tg} {i : Nat} {ws1 : List Value} (ka : KA h b v (fsts (X ++ x :: (B ++ Y)))) (hi : i ≤ B.length) (hl : X.length + B.length + Y.length ≤ 900) (hw : AM.gv ws1 0 = iv ((X.length + 1 + i : Nat) : Int)) {a : Int} (ha : a = X.length) :
    ∃ h' w, lpGo (f118_l2 rn 2000 v ws1) 2000 [iv a] h = some (.exit 2, w, h') ∧ Fk h h' b ∧ KA h' b v (fsts (X ++ ((B.take i ++ x :: B.drop i) ++ Y))) := by
  subst ha
  obtain ⟨e, w, h', hlp, rfl, fk, ka'⟩ := lp_range (F := f118_l2 rn 2000 v ws1) (k := 2000) (n := i)
    (fun k ws g => ws = [iv ((X.length + k : Nat) : Int)] ∧ Fk h g b ∧ KA g b v (fsts (X ++ ((B.take k ++ x :: B.drop k) ++ Y))))
    (fun e _ g => e = .exit 2 ∧ Fk h g b ∧ KA g b v (fsts (X ++ ((B.take i ++ x :: B.drop i) ++ Y))))
    (by
      rintro k ws g hk ⟨rfl, fk, ka⟩
      have hy := List.getElem?_eq_getElem (show k < B.length by omega)
      generalize hyd : B[k] = y at hy
      have dB : B.drop k = y :: B.drop (k + 1) := by rw [List.drop_eq_getElem_cons (by omega), hyd]
      have tB : B.take (k + 1) = B.take k ++ [y] := by rw [List.take_add_one, hy]; rfl
      have hxl : (X ++ B.take k).length = X.length + k := by rw [List.length_append, List.length_take]; omega
      have e0 : X ++ ((B.take k ++ x :: B.drop k) ++ Y) = (X ++ B.take k) ++ x :: y :: (B.drop (k + 1) ++ Y) := by rw [dB]; simp
      have gx : (fsts (X ++ ((B.take k ++ x :: B.drop k) ++ Y)))[X.length + k]? = some x.1 := get_fst (by rw [e0, ← hxl]; exact app_get (i := 0) rfl)
      have gy : (fsts (X ++ ((B.take k ++ x :: B.drop k) ++ Y)))[X.length + (k + 1)]? = some y.1 := get_fst (by rw [e0, show X.length + (k + 1) = (X ++ B.take k).length + 1 by omega]; exact app_get (i := 1) rfl)
      have hadd : add .i64 ((X.length + k : Nat) : Int) 1 = ((X.length + (k + 1) : Nat) : Int) := by rw [add64 (by omega) (by omega)]; omega
      have hsub : AM.sub .i64 ((X.length + 1 + i : Nat) : Int) 1 = ((X.length + i : Nat) : Int) := by rw [sub64 (by omega) (by omega)]; omega
      obtain ⟨g2, e2, fk2, ka2⟩ := ka_swap ka gx gy (fun h5 => some ((Ex.normal, [iv ((X.length + (k + 1) : Nat) : Int)], h5) : Ex × List Value × H))
      have hsw : swapL (fsts (X ++ ((B.take k ++ x :: B.drop k) ++ Y))) (X.length + k) (X.length + (k + 1)) = fsts (X ++ ((B.take (k + 1) ++ x :: B.drop (k + 1)) ++ Y)) := by
        rw [swapL_map, e0, swapL_comm _ _ _ (by omega), ← hxl, show X.length + (k + 1) = (X ++ B.take k).length + 1 by omega, swap_next, tB]
        simp
      rw [hsw] at ka2
      refine ⟨.normal, _, g2, ?_, .inl ⟨rfl, rfl, fk.trans fk2, ka2⟩⟩
      unfold f118_l2
      rw [hw, show AM.gv [iv ((X.length + k : Nat) : Int)] 0 = iv ((X.length + k : Nat) : Int) from rfl, asI_int, asI_int, hsub, lt_t (by omega), ifB_true, asI_int, asI_int, hadd, ka.get gy, asK_int, ka.get gx, asK_int]
      simp only [asI_int, hadd]
      exact e2)
    (by
      rintro ws g ⟨rfl, fk, ka⟩
      have hsub : AM.sub .i64 ((X.length + 1 + i : Nat) : Int) 1 = ((X.length + i : Nat) : Int) := by rw [sub64 (by omega) (by omega)]; omega
      refine ⟨.exit 2, [iv ((X.length + i : Nat) : Int)], g, ?_, by simp, rfl, fk, ka⟩
      unfold f118_l2
      rw [hw, show AM.gv [iv ((X.length + i : Nat) : Int)] 0 = iv ((X.length + i : Nat) : Int) from rfl, asI_int, asI_int, hsub, lt_f (by omega), ifB_false]
      rfl)
    (ws := [iv (X.length : Int)]) (h := h) (by omega) ⟨rfl, .refl _ _, by simpa using ka⟩
  exact ⟨h', w, hlp, fk, ka'⟩

/-! ### One element on the right -/
theorem s118_l3 {h : H} {b : Nat} {v : Value} {X A Y : List Tg} {y : Tg} (ka : KA h b v (fsts (X ++ (A ++ y :: Y)))) (hA : Srt A) (htg : ∀ x ∈ A, x.2 < y.2) (hsm : Sm40 (y :: A)) (hl : X.length + A.length + Y.length ≤ 900) {a m : Int} (ha : a = X.length) (hm : m = ((X.length + A.length : Nat) : Int)) :
    ∃ i z, i ≤ A.length ∧ lpGo (f118_l3 rn 2000 v m cmpV) 2000 [iv a, iv m] h = some (.exit 4, [iv ((X.length + i : Nat) : Int), z], h) ∧ (∀ j x, j < i → A[j]? = some x → ltT x y) ∧ ∀ j x, i ≤ j → A[j]? = some x → ltT y x := by
  subst ha hm
  obtain ⟨e, w, h', hlp, rfl, rfl, i, z, rfl, hi, h1, h2⟩ := lpGo_inv (F := f118_l3 rn 2000 v ((X.length + A.length : Nat) : Int) cmpV)
    (fun d ws g => g = h ∧ ∃ i j : Nat, d = j - i ∧ ws = [iv ((X.length + i : Nat) : Int), iv ((X.length + j : Nat) : Int)] ∧ i ≤ j ∧ j ≤ A.length ∧ (∀ c x, c < i → A[c]? = some x → ltT x y) ∧ ∀ c x, j ≤ c → A[c]? = some x → ltT y x)
    (fun e ws g => e = .exit 4 ∧ g = h ∧ ∃ (i : Nat) (z : Value), ws = [iv ((X.length + i : Nat) : Int), z] ∧ i ≤ A.length ∧ (∀ c x, c < i → A[c]? = some x → ltT x y) ∧ ∀ c x, i ≤ c → A[c]? = some x → ltT y x)
    (by
      rintro d ws g ⟨rfl, i, j, rfl, rfl, hij, hj, h1, h2⟩
      have g0 : AM.gv [iv ((X.length + i : Nat) : Int), iv ((X.length + j : Nat) : Int)] 0 = iv ((X.length + i : Nat) : Int) := rfl
      have g1 : AM.gv [iv ((X.length + i : Nat) : Int), iv ((X.length + j : Nat) : Int)] 1 = iv ((X.length + j : Nat) : Int) := rfl
      by_cases hlt : i < j
      · obtain ⟨k, hk⟩ : ∃ k, (X.length + i + (X.length + j)) / 2 = X.length + k := ⟨(X.length + i + (X.length + j)) / 2 - X.length, by omega⟩
        have hki : i ≤ k ∧ k < j := by omega
        have hx := List.getElem?_eq_getElem (show k < A.length by omega)
        generalize hxd : A[k] = x at hx
        have hxm := List.mem_of_getElem? hx
        have hmid := mid_calc (i := X.length + i) (j := X.length + j) (by omega)
        rw [hk] at hmid
        have gx : (fsts (X ++ (A ++ y :: Y)))[X.length + k]? = some x.1 := get_fst (app_get (app_get0 hx))
        have gy : (fsts (X ++ (A ++ y :: Y)))[X.length + A.length]? = some y.1 := get_fst (app_get (app_get (i := 0) rfl))
        have hty := hsm y List.mem_cons_self
        have htx := hsm x (List.mem_cons_of_mem _ hxm)
        have hadd : add .i64 ((X.length + k : Nat) : Int) 1 = ((X.length + (k + 1) : Nat) : Int) := by rw [add64 (by omega) (by omega)]; omega
        have pre : ∀ r, (ifB (!(AM.lt (y.1.t - x.1.t) 0)) (some (Ex.normal, [iv ((X.length + (k + 1) : Nat) : Int), iv ((X.length + j : Nat) : Int)], g)) (some (Ex.normal, [iv ((X.length + i : Nat) : Int), iv ((X.length + k : Nat) : Int)], g))) = r → f118_l3 rn 2000 v ((X.length + A.length : Nat) : Int) cmpV [iv ((X.length + i : Nat) : Int), iv ((X.length + j : Nat) : Int)] g = r := by
          intro r hr
          unfold f118_l3
          rw [g0, g1, asI_int, asI_int, lt_t (by omega), ifB_true, asI_int, asI_int, nn_ge (show (0 : Int) ≤ 1 by omega), ka.get gy, hmid, ka.get gx, kcmp y.1 x.1 hty htx, asI_int, hadd]
          exact hr
        by_cases hc : y.1.t < x.1.t
        · have hyx := (lt_right (htg x hxm)).1 hc
          refine ⟨.normal, _, g, pre _ (by rw [lt_t (by omega), show (!true) = false from rfl, ifB_false]), .inl ⟨rfl, k - i, by omega, rfl, i, k, rfl, rfl, by omega, by omega, h1, fun c z hc hz => ?_⟩⟩
          by_cases hck : c = k
          · rw [hck, hx] at hz; cases hz; exact hyx
          · exact hyx.trans (srt_get hA hx hz (by omega))
        · have hxy := (lt_left (htg x hxm)).1 hc
          refine ⟨.normal, _, g, pre _ (by rw [lt_f (by omega), show (!false) = true from rfl, ifB_true]), .inl ⟨rfl, j - (k + 1), by omega, rfl, k + 1, j, rfl, rfl, by omega, hj, fun c z hc hz => ?_, h2⟩⟩
          by_cases hck : c = k
          · rw [hck, hx] at hz; cases hz; exact hxy
          · exact (srt_get hA hz hx (by omega)).trans hxy
      · obtain rfl : i = j := by omega
        refine ⟨.exit 4, [iv ((X.length + i : Nat) : Int), iv ((X.length + i : Nat) : Int)], g, ?_, .inr ⟨by simp, rfl, rfl, i, _, rfl, hj, h1, h2⟩⟩
        unfold f118_l3
        rw [g0, g1, asI_int, asI_int, lt_f (by omega), ifB_false]
        rfl)
    A.length 2000 (by omega) (ws := [iv (X.length : Int), iv ((X.length + A.length : Nat) : Int)]) (h := h) ⟨rfl, 0, A.length, rfl, rfl, by omega, by omega, fun c x hc => by omega, fun c x hc hx => by have := (List.getElem?_eq_some_iff.1 hx).1; omega⟩
  exact ⟨i, z, hi, hlp, h1, h2⟩

theorem s118_l4 {h : H} {b : Nat} {v : Value} {X A Y : List Tg} {y : Tg} {i : Nat} {ws5 : List Value} (ka : KA h b v (fsts (X ++ (A ++ y :: Y)))) (hi : i ≤ A.length) (hl : X.length + A.length + Y.length ≤ 900) (hw : AM.gv ws5 0 = iv ((X.length + i : Nat) : Int)) {m : Int} (hm : m = ((X.length + A.length : Nat) : Int)) :
    ∃ h' w, lpGo (f118_l4 rn 2000 v ws5) 2000 [iv m] h = some (.exit 6, w, h') ∧ Fk h h' b ∧ KA h' b v (fsts (X ++ ((A.take i ++ y :: A.drop i) ++ Y))) := by
  subst hm
  obtain ⟨e, w, h', hlp, rfl, fk, ka'⟩ := lp_range (F := f118_l4 rn 2000 v ws5) (k := 2000) (n := A.length - i)
    (fun d ws g => ws = [iv ((X.length + (A.length - d) : Nat) : Int)] ∧ Fk h g b ∧ KA g b v (fsts (X ++ ((A.take (A.length - d) ++ y :: A.drop (A.length - d)) ++ Y))))
    (fun e _ g => e = .exit 6 ∧ Fk h g b ∧ KA g b v (fsts (X ++ ((A.take i ++ y :: A.drop i) ++ Y))))
    (by
      rintro d ws g hd ⟨rfl, fk, ka⟩
      obtain ⟨k, hk⟩ : ∃ k, A.length - d = k + 1 := ⟨A.length - d - 1, by omega⟩
      rw [hk] at ka ⊢
      have hd2 : A.length - (d + 1) = k := by omega
      rw [hd2]
      have hx := List.getElem?_eq_getElem (show k < A.length by omega)
      generalize hxd : A[k] = x at hx
      have dA : A.drop k = x :: A.drop (k + 1) := by rw [List.drop_eq_getElem_cons (by omega), hxd]
      have tA : A.take (k + 1) = A.take k ++ [x] := by rw [List.take_add_one, hx]; rfl
      have hxl : (X ++ A.take k).length = X.length + k := by rw [List.length_append, List.length_take]; omega
      have e0 : X ++ ((A.take (k + 1) ++ y :: A.drop (k + 1)) ++ Y) = (X ++ A.take k) ++ x :: y :: (A.drop (k + 1) ++ Y) := by rw [tA]; simp
      have gx : (fsts (X ++ ((A.take (k + 1) ++ y :: A.drop (k + 1)) ++ Y)))[X.length + k]? = some x.1 := get_fst (by rw [e0, ← hxl]; exact app_get (i := 0) rfl)
      have gy : (fsts (X ++ ((A.take (k + 1) ++ y :: A.drop (k + 1)) ++ Y)))[X.length + (k + 1)]? = some y.1 := get_fst (by rw [e0, show X.length + (k + 1) = (X ++ A.take k).length + 1 by omega]; exact app_get (i := 1) rfl)
      have hsub : AM.sub .i64 ((X.length + (k + 1) : Nat) : Int) 1 = ((X.length + k : Nat) : Int) := by rw [sub64 (by omega) (by omega)]; omega
      obtain ⟨g2, e2, fk2, ka2⟩ := ka_swap ka gy gx (fun h5 => some ((Ex.normal, [iv ((X.length + k : Nat) : Int)], h5) : Ex × List Value × H))
      have hsw : swapL (fsts (X ++ ((A.take (k + 1) ++ y :: A.drop (k + 1)) ++ Y))) (X.length + (k + 1)) (X.length + k) = fsts (X ++ ((A.take k ++ y :: A.drop k) ++ Y)) := by
        rw [swapL_map, e0, ← hxl, show X.length + (k + 1) = (X ++ A.take k).length + 1 by omega, swap_next, dA]
        simp
      rw [hsw] at ka2
      refine ⟨.normal, _, g2, ?_, .inl ⟨rfl, rfl, fk.trans fk2, ka2⟩⟩
      unfold f118_l4
      rw [hw, show AM.gv [iv ((X.length + (k + 1) : Nat) : Int)] 0 = iv ((X.length + (k + 1) : Nat) : Int) from rfl, asI_int, asI_int, lt_t (by omega), ifB_true, asI_int, asI_int, hsub, ka.get gx, asK_int, ka.get gy, asK_int]
      simp only [asI_int, hsub]
      exact e2)
    (by
      rintro ws g ⟨rfl, fk, ka⟩
      rw [show A.length - (A.length - i) = i by omega] at ka ⊢
      refine ⟨.exit 6, [iv ((X.length + i : Nat) : Int)], g, ?_, by simp, rfl, fk, ka⟩
      unfold f118_l4
      rw [hw, show AM.gv [iv ((X.length + i : Nat) : Int)] 0 = iv ((X.length + i : Nat) : Int) from rfl, asI_int, asI_int, lt_f (by omega), ifB_false]
      rfl)
    (ws := [iv ((X.length + A.length : Nat) : Int)]) (h := h) (by omega) ⟨rfl, .refl _ _, by simpa using ka⟩
  exact ⟨h', w, hlp, fk, ka'⟩

/-! ### Where the two lists are cut -/
theorem s118_l5 {h : H} {b : Nat} {v : Value} {X A B Y : List Tg} {q lo hi : Nat} (ka : KA h b v (fsts (X ++ (A ++ (B ++ Y))))) (hA : Srt A) (hB : Srt B) (htg : TgB A B) (hsm : Sm40 (A ++ B)) (hl : X.length + A.length + B.length + Y.length ≤ 900) (hq : (X.length + (X.length + A.length + B.length)) / 2 = X.length + q + 1) (h12 : lo ≤ hi) (hhA : hi ≤ A.length) (hhq : hi ≤ q + 1) (hlB : q + 1 ≤ lo + B.length)
    {a m c s0 r0 : Int} (ha : a = X.length) (hm : m = ((X.length + A.length : Nat) : Int)) (hc : c = ((X.length + A.length + B.length : Nat) : Int)) (hs0 : s0 = ((X.length + lo : Nat) : Int)) (hr0 : r0 = ((X.length + hi : Nat) : Int)) :
    ∃ st z, lo ≤ st ∧ st ≤ hi ∧ lpGo (f118_l5 rn 2000 v a m c cmpV) 2000 [iv s0, iv r0] h = some (.exit 8, [iv ((X.length + st : Nat) : Int), z], h) ∧
      (∀ c x y, lo ≤ c → c < st → A[c]? = some x → B[q - c]? = some y → ltT x y) ∧ ∀ c x y, st ≤ c → c < hi → A[c]? = some x → B[q - c]? = some y → ltT y x := by
  subst ha hm hc hs0 hr0
  have hmid0 := mid_calc (i := X.length) (j := X.length + A.length + B.length) (by omega)
  rw [hq] at hmid0
  obtain ⟨e, w, h', hlp, rfl, rfl, st, z, rfl, q1, q2, q3, q4⟩ := lpGo_inv (F := f118_l5 rn 2000 v (X.length : Int) ((X.length + A.length : Nat) : Int) ((X.length + A.length + B.length : Nat) : Int) cmpV)
    (fun d ws g => g = h ∧ ∃ i j : Nat, d = j - i ∧ ws = [iv ((X.length + i : Nat) : Int), iv ((X.length + j : Nat) : Int)] ∧ lo ≤ i ∧ i ≤ j ∧ j ≤ hi ∧ (∀ c x y, lo ≤ c → c < i → A[c]? = some x → B[q - c]? = some y → ltT x y) ∧ ∀ c x y, j ≤ c → c < hi → A[c]? = some x → B[q - c]? = some y → ltT y x)
    (fun e ws g => e = .exit 8 ∧ g = h ∧ ∃ (st : Nat) (z : Value), ws = [iv ((X.length + st : Nat) : Int), z] ∧ lo ≤ st ∧ st ≤ hi ∧ (∀ c x y, lo ≤ c → c < st → A[c]? = some x → B[q - c]? = some y → ltT x y) ∧ ∀ c x y, st ≤ c → c < hi → A[c]? = some x → B[q - c]? = some y → ltT y x)
    (by
      rintro d ws g ⟨rfl, i, j, rfl, rfl, hli, hij, hj, h1, h2⟩
      have g0 : AM.gv [iv ((X.length + i : Nat) : Int), iv ((X.length + j : Nat) : Int)] 0 = iv ((X.length + i : Nat) : Int) := rfl
      have g1 : AM.gv [iv ((X.length + i : Nat) : Int), iv ((X.length + j : Nat) : Int)] 1 = iv ((X.length + j : Nat) : Int) := rfl
      by_cases hlt : i < j
      · obtain ⟨k, hk⟩ : ∃ k, (X.length + i + (X.length + j)) / 2 = X.length + k := ⟨(X.length + i + (X.length + j)) / 2 - X.length, by omega⟩
        have hki : i ≤ k ∧ k < j := by omega
        have hx := List.getElem?_eq_getElem (show k < A.length by omega)
        generalize hxd : A[k] = x at hx
        have hy := List.getElem?_eq_getElem (show q - k < B.length by omega)
        generalize hyd : B[q - k] = y at hy
        have hxm := List.mem_of_getElem? hx
        have hym := List.mem_of_getElem? hy
        have hmid := mid_calc (i := X.length + i) (j := X.length + j) (by omega)
        rw [hk] at hmid
        have gx : (fsts (X ++ (A ++ (B ++ Y))))[X.length + k]? = some x.1 := get_fst (app_get (app_get0 hx))
        have gy : (fsts (X ++ (A ++ (B ++ Y))))[X.length + (A.length + (q - k))]? = some y.1 := get_fst (app_get (app_get (app_get0 hy)))
        have hty := hsm y (List.mem_append_right _ hym)
        have htx := hsm x (List.mem_append_left _ hxm)
        have hadd : add .i64 ((X.length + k : Nat) : Int) 1 = ((X.length + (k + 1) : Nat) : Int) := by rw [add64 (by omega) (by omega)]; omega
        have hpc : AM.sub .i64 (AM.sub .i64 (add .i64 ((X.length + q + 1 : Nat) : Int) ((X.length + A.length : Nat) : Int)) 1) ((X.length + k : Nat) : Int) = ((X.length + (A.length + (q - k)) : Nat) : Int) := by
          rw [add64 (by omega) (by omega), sub64 (a := ((X.length + q + 1 : Nat) : Int) + ((X.length + A.length : Nat) : Int)) (b := 1) (by omega) (by omega), sub64 (by omega) (by omega)]; omega
        have htxy := htg x hxm y hym
        have pre : ∀ r, (ifB (!(AM.lt (y.1.t - x.1.t) 0)) (some (Ex.normal, [iv ((X.length + (k + 1) : Nat) : Int), iv ((X.length + j : Nat) : Int)], g)) (some (Ex.normal, [iv ((X.length + i : Nat) : Int), iv ((X.length + k : Nat) : Int)], g))) = r → f118_l5 rn 2000 v (X.length : Int) ((X.length + A.length : Nat) : Int) ((X.length + A.length + B.length : Nat) : Int) cmpV [iv ((X.length + i : Nat) : Int), iv ((X.length + j : Nat) : Int)] g = r := by
          intro r hr
          unfold f118_l5
          rw [g0, g1, asI_int, asI_int, lt_t (by omega), ifB_true, asI_int, asI_int, nn_ge (show (0 : Int) ≤ 1 by omega), hmid0, hmid, hpc, ka.get gy, ka.get gx, kcmp y.1 x.1 hty htx, asI_int, hadd]
          exact hr
        by_cases hc : y.1.t < x.1.t
        · have hyx := (lt_right htxy).1 hc
          refine ⟨.normal, _, g, pre _ (by rw [lt_t (by omega), show (!true) = false from rfl, ifB_false]), .inl ⟨rfl, k - i, by omega, rfl, i, k, rfl, rfl, hli, by omega, by omega, h1, fun c x' y' hc hch hx' hy' => ?_⟩⟩
          by_cases hck : c = k
          · rw [hck, hx] at hx'; rw [hck, hy] at hy'; cases hx'; cases hy'; exact hyx
          · have a1 := srt_get hA hx hx' (by omega)
            by_cases hqc : q - c = q - k
            · rw [hqc, hy] at hy'; cases hy'; exact hyx.trans a1
            · exact ((srt_get hB hy' hy (by omega)).trans hyx).trans a1
        · have hxy := (lt_left htxy).1 hc
          refine ⟨.normal, _, g, pre _ (by rw [lt_f (by omega), show (!false) = true from rfl, ifB_true]), .inl ⟨rfl, j - (k + 1), by omega, rfl, k + 1, j, rfl, rfl, by omega, by omega, hj, fun c x' y' hlc hc hx' hy' => ?_, h2⟩⟩
          by_cases hck : c = k
          · rw [hck, hx] at hx'; rw [hck, hy] at hy'; cases hx'; cases hy'; exact hxy
          · have a1 := srt_get hA hx' hx (by omega)
            by_cases hqc : q - k = q - c
            · rw [← hqc, hy] at hy'; cases hy'; exact a1.trans hxy
            · exact (a1.trans hxy).trans (srt_get hB hy hy' (by omega))
      · obtain rfl : i = j := by omega
        refine ⟨.exit 8, [iv ((X.length + i : Nat) : Int), iv ((X.length + i : Nat) : Int)], g, ?_, .inr ⟨by simp, rfl, rfl, i, _, rfl, hli, hj, h1, h2⟩⟩
        unfold f118_l5
        rw [g0, g1, asI_int, asI_int, lt_f (by omega), ifB_false]
        rfl)
    (hi - lo) 2000 (by omega) (ws := [iv ((X.length + lo : Nat) : Int), iv ((X.length + hi : Nat) : Int)]) (h := h) ⟨rfl, lo, hi, rfl, rfl, by omega, h12, by omega, fun c x y h1 h2 => by omega, fun c x y h1 h2 => by omega⟩
  exact ⟨st, z, q1, q2, hlp, q3, q4⟩

end Go.AM

end

section

/- Sorting: symMerge whole. -/
namespace Go.AM
open Go.Proofs
variable {R : Type}
noncomputable def half (v v1 : Value) (p q r : Int) (K : H → Option R) (h : H) : Option R :=
  ifB (lt p q) (ifB (lt q r) (calls rn h 118 [v, .int .i64 p, .int .i64 q, .int .i64 r, v1] fun _ h' => K h') (K h)) (K h)

noncomputable def rot (v v1 : Value) (p q r : Int) (K : H → Option R) (h : H) : Option R :=
  ifB (lt p q) (ifB (lt q r) (calls rn h 119 [v, .int .i64 p, .int .i64 q, .int .i64 r, v1] fun _ h' => K h') (K h)) (K h)

/-- What a merge does. -/
def Merges (n : Nat) : Prop := ∀ {h : H} {b : Nat} {v : Value} {X A B Y : List Tg}, KA h b v (fsts (X ++ (A ++ (B ++ Y)))) → A ≠ [] → B ≠ [] → A.length + B.length = n → Srt A → Srt B → TgB A B → Sm40 (A ++ B) → X.length + A.length + B.length + Y.length ≤ 900 →
  ∀ {a m c : Int}, a = X.length → m = ((X.length + A.length : Nat) : Int) → c = ((X.length + A.length + B.length : Nat) : Int) →
  ∃ h' S, rn 118 #[v, iv a, iv m, iv c, cmpV] h = some (undef, h') ∧ Fk h h' b ∧ KA h' b v (fsts (X ++ (S ++ Y))) ∧ (A ++ B).Perm S ∧ Srt S

theorem half_spec {h : H} {b : Nat} {v : Value} {X A B Y : List Tg} (ih : Merges (A.length + B.length)) (ka : KA h b v (fsts (X ++ (A ++ (B ++ Y))))) (hA : Srt A) (hB : Srt B) (htg : TgB A B) (hsm : Sm40 (A ++ B)) (hl : X.length + A.length + B.length + Y.length ≤ 900)
    {a m c : Int} (ha : a = X.length) (hm : m = ((X.length + A.length : Nat) : Int)) (hc : c = ((X.length + A.length + B.length : Nat) : Int)) (K : H → Option R) :
    ∃ h' S, half v cmpV a m c K h = K h' ∧ Fk h h' b ∧ KA h' b v (fsts (X ++ (S ++ Y))) ∧ (A ++ B).Perm S ∧ Srt S := by
  unfold half
  by_cases h1 : A = []
  · subst h1
    refine ⟨h, B, ?_, .refl _ _, ka, .refl _, hB⟩
    rw [lt_f (by simp at hm; omega), ifB_false]
  · have := List.length_pos_iff.2 h1
    rw [lt_t (by omega), ifB_true]
    by_cases h2 : B = []
    · subst h2
      refine ⟨h, A, ?_, .refl _ _, ka, by simp, hA⟩
      rw [lt_f (by simp at hc; omega), ifB_false]
    · have := List.length_pos_iff.2 h2
      rw [lt_t (by omega), ifB_true]
      obtain ⟨h', S, e, r⟩ := ih ka h1 h2 rfl hA hB htg hsm hl ha hm hc
      exact ⟨h', S, calls_eq e, r⟩

theorem rot_spec {h : H} {b : Nat} {v : Value} {X A B Y : List Tg} (ka : KA h b v (fsts (X ++ (A ++ (B ++ Y))))) (hl : X.length + A.length + B.length + Y.length ≤ 900)
    {a m c : Int} (ha : a = ((X.length : Nat) : Int)) (hm : m = ((X.length + A.length : Nat) : Int)) (hc : c = ((X.length + A.length + B.length : Nat) : Int)) (K : H → Option R) :
    ∃ h', rot v cmpV a m c K h = K h' ∧ Fk h h' b ∧ KA h' b v (fsts (X ++ (B ++ (A ++ Y)))) := by
  unfold rot
  by_cases h1 : A = []
  · subst h1
    refine ⟨h, ?_, .refl _ _, ka⟩
    rw [lt_f (by simp at hm; omega), ifB_false]
  · have := List.length_pos_iff.2 h1
    rw [lt_t (by omega), ifB_true]
    by_cases h2 : B = []
    · subst h2
      refine ⟨h, ?_, .refl _ _, ka⟩
      rw [lt_f (by simp at hc; omega), ifB_false]
    · have := List.length_pos_iff.2 h2
      rw [lt_t (by omega), ifB_true]
      obtain ⟨h', e, f, k⟩ := s119 (h := h) (b := b) (v := v) (X := fsts X) (U := fsts A) (V := fsts B) (Y := fsts Y) (by simpa [fsts] using ka) (by simpa [fsts] using h1) (by simpa [fsts] using h2) (by simp [fsts]; omega) (p := a) (q := m) (r := c) (by simp [fsts]; omega) (by simp [fsts]; omega) (by simp [fsts]; omega)
      exact ⟨h', calls_eq e, f, by simpa [fsts] using k⟩

/-- The two halves, once the cut is known. -/
theorem cut_spec {h : H} {b : Nat} {v : Value} {X A B Y : List Tg} {st k : Nat} (ih : ∀ n, n < A.length + B.length → Merges n) (ka : KA h b v (fsts (X ++ (A ++ (B ++ Y))))) (hA : Srt A) (hB : Srt B) (htg : TgB A B) (hsm : Sm40 (A ++ B)) (hl : X.length + A.length + B.length + Y.length ≤ 900)
    (h1 : Bef (A.take st) (B.drop k)) (h2 : Bef (B.take k) (A.drop st)) (hst : st ≤ A.length) (hk : k ≤ B.length) (h0 : 0 < st + k) (h9 : st + k < A.length + B.length)
    {a m c s mid en : Int} (ha : a = X.length) (hm : m = ((X.length + A.length : Nat) : Int)) (hc : c = ((X.length + A.length + B.length : Nat) : Int)) (hs : s = ((X.length + st : Nat) : Int)) (hmid : mid = ((X.length + st + k : Nat) : Int)) (hen : en = ((X.length + A.length + k : Nat) : Int)) (K : H → Option R) :
    ∃ h' S, rot v cmpV s m en (half v cmpV a s mid (half v cmpV mid en c K)) h = K h' ∧ Fk h h' b ∧ KA h' b v (fsts (X ++ (S ++ Y))) ∧ (A ++ B).Perm S ∧ Srt S := by
  have eA : A.take st ++ A.drop st = A := List.take_append_drop _ _
  have eB : B.take k ++ B.drop k = B := List.take_append_drop _ _
  have lA1 : (A.take st).length = st := by rw [List.length_take]; omega
  have lA2 : (A.drop st).length = A.length - st := List.length_drop
  have lB1 : (B.take k).length = k := by rw [List.length_take]; omega
  have lB2 : (B.drop k).length = B.length - k := List.length_drop
  have mA1 : ∀ x ∈ A.take st, x ∈ A := fun x hx => List.mem_of_mem_take hx
  have mA2 : ∀ x ∈ A.drop st, x ∈ A := fun x hx => List.mem_of_mem_drop hx
  have mB1 : ∀ x ∈ B.take k, x ∈ B := fun x hx => List.mem_of_mem_take hx
  have mB2 : ∀ x ∈ B.drop k, x ∈ B := fun x hx => List.mem_of_mem_drop hx
  have sA1 := srt_take hA st
  have sA2 := srt_drop hA st
  have sB1 := srt_take hB k
  have sB2 := srt_drop hB k
  generalize A.take st = A1 at *
  generalize A.drop st = A2 at *
  generalize B.take k = B1 at *
  generalize B.drop k = B2 at *
  subst eA eB
  simp only [List.length_append] at *
  have ka0 : KA h b v (fsts ((X ++ A1) ++ (A2 ++ (B1 ++ (B2 ++ Y))))) := by simpa using ka
  obtain ⟨g1, e1, f1, k1⟩ := rot_spec (X := X ++ A1) (A := A2) (B := B1) (Y := B2 ++ Y) ka0 (by simp only [List.length_append]; omega) (a := s) (m := m) (c := en) (by simp only [List.length_append]; omega) (by simp only [List.length_append]; omega) (by simp only [List.length_append]; omega) (half v cmpV a s mid (half v cmpV mid en c K))
  have k1' : KA g1 b v (fsts (X ++ (A1 ++ (B1 ++ (A2 ++ (B2 ++ Y)))))) := by simpa using k1
  have hsmA : ∀ x ∈ A1 ++ A2, 0 ≤ x.1.t ∧ x.1.t ≤ 1000 := fun x hx => hsm x (List.mem_append_left _ hx)
  have hsmB : ∀ x ∈ B1 ++ B2, 0 ≤ x.1.t ∧ x.1.t ≤ 1000 := fun x hx => hsm x (List.mem_append_right _ hx)
  obtain ⟨g2, S1, e2, f2, k2, p2, q2⟩ := half_spec (X := X) (A := A1) (B := B1) (Y := A2 ++ (B2 ++ Y)) (ih _ (by omega)) k1' sA1 sB1 (fun x hx y hy => htg x (mA1 x hx) y (mB1 y hy)) (fun x hx => (List.mem_append.1 hx).elim (fun h => hsmA x (mA1 x h)) (fun h => hsmB x (mB1 x h))) (by simp only [List.length_append]; omega) (a := a) (m := s) (c := mid) (by omega) (by omega) (by omega) (half v cmpV mid en c K)
  have l2 : S1.length = A1.length + B1.length := by rw [← p2.length_eq, List.length_append]
  have k2' : KA g2 b v (fsts ((X ++ S1) ++ (A2 ++ (B2 ++ Y)))) := by simpa using k2
  obtain ⟨g3, S2, e3, f3, k3, p3, q3⟩ := half_spec (X := X ++ S1) (A := A2) (B := B2) (Y := Y) (ih _ (by omega)) k2' sA2 sB2 (fun x hx y hy => htg x (mA2 x hx) y (mB2 y hy)) (fun x hx => (List.mem_append.1 hx).elim (fun h => hsmA x (mA2 x h)) (fun h => hsmB x (mB2 x h))) (by simp only [List.length_append]; omega) (a := mid) (m := en) (c := c) (by simp only [List.length_append]; omega) (by simp only [List.length_append]; omega) (by simp only [List.length_append]; omega) K
  obtain ⟨p4, q4⟩ := merge_halves (A := A1 ++ A2) (B := B1 ++ B2) (S1 := S1) (S2 := S2) (st := st) (k := k) hA hB
    (by rw [List.take_left' lA1, List.drop_left' lB1]; exact h1) (by rw [List.take_left' lB1, List.drop_left' lA1]; exact h2)
    (by rw [List.take_left' lA1, List.take_left' lB1]; exact p2) (by rw [List.drop_left' lA1, List.drop_left' lB1]; exact p3) q2 q3
  refine ⟨g3, S1 ++ S2, ?_, (f1.trans f2).trans f3, by simpa using k3, p4, q4⟩
  rw [e1, e2, e3]

theorem l6_eq : f118_l6 = f118_l5 := by kernel_rfl

set_option maxHeartbeats 1000000 in
theorem s118 : ∀ n, Merges n := by
  intro n
  induction n using Nat.strongRecOn with
  | ind n ih =>
  intro h b v X A B Y ka hne1 hne2 hn hA hB htg hsm hl a m c ha hm hc
  subst hn
  have la := List.length_pos_iff.2 hne1
  have lb := List.length_pos_iff.2 hne2
  have fin : ∀ {h' : H} {S : List Tg}, f118 rn 2000 v a m c cmpV h = some (undef, h') → Fk h h' b → KA h' b v (fsts (X ++ (S ++ Y))) → (A ++ B).Perm S → Srt S →
      ∃ h' S, rn 118 #[v, iv a, iv m, iv c, cmpV] h = some (undef, h') ∧ Fk h h' b ∧ KA h' b v (fsts (X ++ (S ++ Y))) ∧ (A ++ B).Perm S ∧ Srt S := by
    intro h' S e f k p q
    obtain ⟨t1, t2⟩ := fk_trunc (w := undef) f ka.lt k
    exact ⟨_, S, t118 (k := 2000) (v := undef) (h1 := h') e, t1, t2, p, q⟩
  have hs1 : AM.sub .i64 m a = (A.length : Int) := by rw [sub64 (by omega) (by omega)]; omega
  have hs2 : AM.sub .i64 c m = (B.length : Int) := by rw [sub64 (by omega) (by omega)]; omega
  by_cases h1 : A.length = 1
  · obtain ⟨x, rfl⟩ := List.length_eq_one_iff.1 h1
    have ka' : KA h b v (fsts (X ++ x :: (B ++ Y))) := by simpa using ka
    obtain ⟨i, z, hi, e1, p1, p2⟩ := s118_l1 (a := a) (m := m) (c := c) ka' hB (fun y hy => htg x (by simp) y hy) (by simpa using hsm) (by simp at hl; omega) ha (by simpa using hm) (by simpa using hc)
    obtain ⟨g2, w2, e2, f2, k2⟩ := s118_l2 (ws1 := [iv ((X.length + 1 + i : Nat) : Int), z]) (i := i) (a := a) ka' hi (by simp at hl; omega) rfl ha
    refine fin (h' := g2) (S := B.take i ++ x :: B.drop i) ?_ f2 k2 ?_ (insert_at hB p1 p2)
    · unfold f118
      rw [hs1, show AM.eq (([x] : List Tg).length : Int) 1 = true from rfl, ifB_true, lp_eq e1, onE_exit, if_pos rfl, lp_eq e2, onE_exit, if_pos rfl]
    · have : ([x] ++ B : List Tg).Perm (x :: (B.take i ++ B.drop i)) := by rw [List.take_append_drop]; exact .refl _
      exact this.trans (List.perm_middle).symm
  · have hf1 : AM.eq (A.length : Int) 1 = false := by simp [AM.eq]; omega
    by_cases h2 : B.length = 1
    · obtain ⟨y, rfl⟩ := List.length_eq_one_iff.1 h2
      have ka' : KA h b v (fsts (X ++ (A ++ y :: Y))) := by simpa using ka
      obtain ⟨i, z, hi, e1, p1, p2⟩ := s118_l3 (a := a) (m := m) ka' hA (fun x hx => htg x hx y (by simp)) (fun z hz => hsm z (by rcases List.mem_cons.1 hz with rfl | hz <;> simp [*])) (by simp at hl; omega) ha hm
      obtain ⟨g2, w2, e2, f2, k2⟩ := s118_l4 (ws5 := [iv ((X.length + i : Nat) : Int), z]) (i := i) (m := m) ka' hi (by simp at hl; omega) rfl hm
      refine fin (h' := g2) (S := A.take i ++ y :: A.drop i) ?_ f2 k2 ?_ (insert_at hA p1 p2)
      · unfold f118
        rw [hs1, hf1, ifB_false, hs2, show AM.eq (([y] : List Tg).length : Int) 1 = true from rfl, ifB_true, lp_eq e1, onE_exit, if_pos rfl, lp_eq e2, onE_exit, if_pos rfl]
      · have : (A ++ [y] : List Tg).Perm (y :: (A.take i ++ A.drop i)) := by rw [List.take_append_drop]; exact List.perm_append_comm (l₁ := A) (l₂ := [y])
        exact this.trans (List.perm_middle).symm
    · have hf2 : AM.eq (B.length : Int) 1 = false := by simp [AM.eq]; omega
      obtain ⟨q, hq⟩ : ∃ q, (X.length + (X.length + A.length + B.length)) / 2 = X.length + q + 1 := ⟨(X.length + (X.length + A.length + B.length)) / 2 - X.length - 1, by omega⟩
      have hmid := mid_calc (i := X.length) (j := X.length + A.length + B.length) (by omega)
      rw [hq, ← ha, ← hc] at hmid
      have step : ∀ st : Nat, st ≤ A.length → st ≤ q + 1 → q + 1 - st ≤ B.length → Bef (A.take st) (B.drop (q + 1 - st)) → Bef (B.take (q + 1 - st)) (A.drop st) →
          ∃ h' S, rot v cmpV ((X.length + st : Nat) : Int) m ((X.length + A.length + (q + 1 - st) : Nat) : Int) (half v cmpV a ((X.length + st : Nat) : Int) ((X.length + q + 1 : Nat) : Int) (half v cmpV ((X.length + q + 1 : Nat) : Int) ((X.length + A.length + (q + 1 - st) : Nat) : Int) c (fun h => some (undef, h)))) h = some (undef, h') ∧ Fk h h' b ∧ KA h' b v (fsts (X ++ (S ++ Y))) ∧ (A ++ B).Perm S ∧ Srt S := by
        intro st q1 q2 q3 b1 b2
        exact cut_spec (st := st) (k := q + 1 - st) ih ka hA hB htg hsm hl b1 b2 q1 q3 (by omega) (by omega) ha hm hc rfl (by omega) rfl _
      have hen : ∀ st : Nat, st ≤ q + 1 → AM.sub .i64 (add .i64 ((X.length + q + 1 : Nat) : Int) m) ((X.length + st : Nat) : Int) = ((X.length + A.length + (q + 1 - st) : Nat) : Int) := by
        intro st hst
        rw [add64 (by omega) (by omega), sub64 (by omega) (by omega)]; omega
      by_cases h3 : q + 1 < A.length
      · obtain ⟨st, z, q1, q2, e1, p1, p2⟩ := s118_l5 (a := a) (m := m) (c := c) (s0 := ((X.length + (q + 1 - B.length) : Nat) : Int)) (r0 := ((X.length + (q + 1) : Nat) : Int)) ka hA hB htg hsm hl hq (lo := q + 1 - B.length) (hi := q + 1) (by omega) (by omega) (by omega) (by omega) ha hm hc rfl rfl
        obtain ⟨c1, c2⟩ := merge_cut (q := q) (lo := q + 1 - B.length) (hi := q + 1) (st := st) hA hB (.inr (by omega)) (.inr rfl) q1 q2 (by omega) (by omega) (by omega) p1 p2
        obtain ⟨g, S, e2, f2, k2, p2, r2⟩ := step st (by omega) (by omega) (by omega) c1 c2
        refine fin ?_ f2 k2 p2 r2
        have hlo : AM.sub .i64 (add .i64 ((X.length + q + 1 : Nat) : Int) m) c = ((X.length + (q + 1 - B.length) : Nat) : Int) := by
          rw [add64 (by omega) (by omega), sub64 (by omega) (by omega)]; omega
        unfold f118
        rw [hs1, hf1, ifB_false, hs2, hf2, ifB_false, nn_ge (show (0 : Int) ≤ 1 by omega), hmid, lt_t (by omega), ifB_true, hlo, show ((X.length + q + 1 : Nat) : Int) = ((X.length + (q + 1) : Nat) : Int) from rfl, lp_eq e1, onE_exit, if_pos rfl]
        simp only [show AM.gv [iv ((X.length + st : Nat) : Int), z] 0 = iv ((X.length + st : Nat) : Int) from rfl, asI_int]
        rw [show ((X.length + (q + 1) : Nat) : Int) = ((X.length + q + 1 : Nat) : Int) from rfl, hen st (by omega)]
        exact e2
      · obtain ⟨st, z, q1, q2, e1, p1, p2⟩ := s118_l5 (a := a) (m := m) (c := c) (s0 := a) (r0 := m) ka hA hB htg hsm hl hq (lo := 0) (hi := A.length) (by omega) (by omega) (by omega) (by omega) ha hm hc (by omega) (by omega)
        obtain ⟨c1, c2⟩ := merge_cut (q := q) (lo := 0) (hi := A.length) (st := st) hA hB (.inl rfl) (.inl rfl) q1 q2 (by omega) (by omega) (by omega) p1 p2
        obtain ⟨g, S, e2, f2, k2, p2, r2⟩ := step st (by omega) (by omega) (by omega) c1 c2
        refine fin ?_ f2 k2 p2 r2
        unfold f118
        rw [hs1, hf1, ifB_false, hs2, hf2, ifB_false, nn_ge (show (0 : Int) ≤ 1 by omega), hmid, lt_f (by omega), ifB_false, l6_eq, lp_eq e1, onE_exit, if_pos rfl]
        simp only [show AM.gv [iv ((X.length + st : Nat) : Int), z] 0 = iv ((X.length + st : Nat) : Int) from rfl, asI_int]
        rw [hen st (by omega)]
        exact e2

end Go.AM

end

section

/- Sorting: the whole. -/
namespace Go.AM
open Go.Proofs
variable {R : Type}
theorem perm_sm {S S' : List Tg} (p : S.Perm S') (h : Sm40 S) : Sm40 S' := fun x hx => h x (p.mem_iff.2 hx)

theorem perm_tgb {A A' B B' : List Tg} (p : A.Perm A') (q : B.Perm B') (h : TgB A B) : TgB A' B' := fun x hx y hy => h x (p.mem_iff.2 hx) y (q.mem_iff.2 hy)

theorem inc_parts {A B : List Tg} (h : IncT (A ++ B)) : IncT A ∧ IncT B ∧ TgB A B := by
  unfold IncT at *
  rw [List.pairwise_append] at h
  exact ⟨h.1, h.2.1, h.2.2⟩

set_option maxHeartbeats 1000000 in
theorem s114 {h : H} {b : Nat} {v : Value} {T : List Tg} (ka : KA h b v (fsts T)) (hi : IncT T) (hsm : Sm40 T) (hl : T.length < 40) {n : Int} (hn : n = T.length) :
    ∃ h' S, rn 114 #[v, iv n, cmpV] h = some (undef, h') ∧ Fk h h' b ∧ KA h' b v (fsts S) ∧ T.Perm S ∧ Srt S := by
  subst hn
  have g0 : ∀ a c : Int, AM.gv [iv a, iv c] 0 = iv a := fun _ _ => rfl
  have g1 : ∀ a c : Int, AM.gv [iv a, iv c] 1 = iv c := fun _ _ => rfl
  have g00 : ∀ a : Int, AM.gv [iv a] 0 = iv a := fun _ => rfl
  have m2 : AM.mul .i64 2 20 = 40 := rfl
  have m3 : AM.mul .i64 20 2 = 40 := rfl
  have a1 : add .i64 (20 : Int) 20 = 40 := rfl
  have a2 : add .i64 (0 : Int) 20 = 20 := rfl
  by_cases h20 : T.length < 20
  · have e1 : lpGo (f114_l1 rn 2000 v (T.length : Int) cmpV) 2000 [iv 0, iv 20] h = some (.exit 0, [iv 0, iv 20], h) := by
      refine lpGo_exit (m := 1999) ?_
      unfold f114_l1
      rw [g0, g1, asI_int, show AM.le (20 : Int) (T.length : Int) = false by simp [AM.le]; omega, ifB_false]
      rfl
    obtain ⟨g2, S, e2, f2, k2, p2, s2⟩ := s117 (X := []) (S := T) (Y := []) (a := 0) (c := T.length) (by simpa using ka) hi hsm (by simp; omega) rfl (by simp)
    obtain ⟨t1, t2⟩ := fk_trunc (w := undef) f2 ka.lt (show KA g2 b v (fsts S) by simpa using k2)
    refine ⟨_, S, t114 (k := 2000) (v := undef) (h1 := g2) ?_, t1, t2, p2, s2⟩
    unfold f114
    rw [lp_eq e1, onE_exit, if_pos rfl, g0, calls_eq (xs := [v, iv 0, iv T.length, cmpV]) e2]
    have e3 : lpGo (f114_l2 rn 2000 v (T.length : Int) cmpV) 2000 [iv 20] g2 = some (.exit 2, [iv 20], g2) := by
      refine lpGo_exit (m := 1999) ?_
      unfold f114_l2
      rw [g00, asI_int, lt_f (by omega), ifB_false]
      rfl
    rw [lp_eq e3, onE_exit, if_pos rfl]
  · obtain ⟨A, hAd⟩ : ∃ A, A = T.take 20 := ⟨_, rfl⟩
    obtain ⟨B, hBd⟩ : ∃ B, B = T.drop 20 := ⟨_, rfl⟩
    have hT : T = A ++ B := by rw [hAd, hBd, List.take_append_drop]
    have lA : A.length = 20 := by rw [hAd, List.length_take]; omega
    have lT : T.length = 20 + B.length := by rw [hT, List.length_append, lA]
    obtain ⟨i1, i2, i3⟩ := inc_parts (show IncT (A ++ B) by rw [← hT]; exact hi)
    have smA : Sm40 A := fun x hx => hsm x (by rw [hT]; exact List.mem_append_left _ hx)
    have smB : Sm40 B := fun x hx => hsm x (by rw [hT]; exact List.mem_append_right _ hx)
    obtain ⟨g1', A', e1, f1, k1, p1, s1⟩ := s117 (X := []) (S := A) (Y := B) (a := 0) (c := 20) (by rw [hT] at ka; simpa using ka) i1 smA (by simp; omega) rfl (by simp [lA])
    have lA' : A'.length = 20 := by rw [← p1.length_eq, lA]
    obtain ⟨g2, B', e2, f2, k2, p2, s2⟩ := s117 (X := A') (S := B) (Y := []) (a := 20) (c := T.length) (by simpa using k1) i2 smB (by simp; omega) (by omega) (by omega)
    have lB' : B'.length = B.length := p2.length_eq.symm
    have el1 : lpGo (f114_l1 rn 2000 v (T.length : Int) cmpV) 2000 [iv 0, iv 20] h = some (.exit 0, [iv 20, iv 40], g1') := by
      have x1 : f114_l1 rn 2000 v (T.length : Int) cmpV [iv 0, iv 20] h = some (.normal, [iv 20, iv 40], g1') := by
        unfold f114_l1
        rw [g0, g1, asI_int, show AM.le (20 : Int) (T.length : Int) = true by simp [AM.le]; omega, ifB_true, calls_eq (xs := [v, iv 0, iv 20, cmpV]) e1, asI_int, a1]
        rfl
      have x2 : f114_l1 rn 2000 v (T.length : Int) cmpV [iv 20, iv 40] g1' = some (.exit 0, [iv 20, iv 40], g1') := by
        unfold f114_l1
        rw [g0, g1, asI_int, show AM.le (40 : Int) (T.length : Int) = false by simp [AM.le]; omega, ifB_false]
        rfl
      exact (lpGo_next (m := 1999) x1).trans (lpGo_exit (m := 1998) x2)
    have pAB : T.Perm (A' ++ B') := by rw [hT]; exact p1.append p2
    by_cases hB0 : B = []
    · subst hB0
      have : B' = [] := List.eq_nil_of_length_eq_zero (by rw [lB']; rfl)
      subst this
      obtain ⟨t1, t2⟩ := fk_trunc (w := undef) (f1.trans f2) ka.lt (show KA g2 b v (fsts A') by simpa using k2)
      refine ⟨_, A', t114 (k := 2000) (v := undef) (h1 := g2) ?_, t1, t2, by simpa using pAB, s1⟩
      unfold f114
      rw [lp_eq el1, onE_exit, if_pos rfl, g0, calls_eq (xs := [v, iv 20, iv T.length, cmpV]) e2]
      have e3 : lpGo (f114_l2 rn 2000 v (T.length : Int) cmpV) 2000 [iv 20] g2 = some (.exit 2, [iv 20], g2) := by
        refine lpGo_exit (m := 1999) ?_
        unfold f114_l2
        rw [g00, asI_int, lt_f (by rw [lT]; simp), ifB_false]
        rfl
      rw [lp_eq e3, onE_exit, if_pos rfl]
    · have hBl := List.length_pos_iff.2 hB0
      obtain ⟨g3, S, e3, f3, k3, p3, s3⟩ := s118 _ (X := []) (A := A') (B := B') (Y := []) (by simpa using k2) (by intro hh; rw [hh] at lA'; cases lA') (by intro hh; rw [hh] at lB'; simp at lB'; omega) rfl s1 s2 (perm_tgb p1 p2 i3) (perm_sm pAB hsm) (by simp; omega) (a := 0) (m := 20) (c := T.length) rfl (by simp [lA']) (by simp [lA', lB', lT])
      obtain ⟨t1, t2⟩ := fk_trunc (w := undef) ((f1.trans f2).trans f3) ka.lt (show KA g3 b v (fsts S) by simpa using k3)
      refine ⟨_, S, t114 (k := 2000) (v := undef) (h1 := g3) ?_, t1, t2, pAB.trans p3, s3⟩
      unfold f114
      rw [lp_eq el1, onE_exit, if_pos rfl, g0, calls_eq (xs := [v, iv 20, iv T.length, cmpV]) e2]
      have e4 : lpGo (f114_l2 rn 2000 v (T.length : Int) cmpV) 2000 [iv 20] g2 = some (.exit 2, [iv 40], g3) := by
        have x1 : f114_l2 rn 2000 v (T.length : Int) cmpV [iv 20] g2 = some (.normal, [iv 40], g3) := by
          unfold f114_l2
          have x0 : lpGo (f114_l3 rn 2000 v (T.length : Int) cmpV [iv 20]) 2000 [iv 0, iv 40] g2 = some (.exit 4, [iv 0, iv 40], g2) := by
            refine lpGo_exit (m := 1999) ?_
            unfold f114_l3
            rw [g0, g1, asI_int, show AM.le (40 : Int) (T.length : Int) = false by simp [AM.le]; omega, ifB_false]
            rfl
          rw [g00, asI_int, lt_t (by omega), ifB_true, asI_int, m2, lp_eq x0, onE_exit, if_pos rfl, g0, asI_int, asI_int, a2, lt_t (by omega), ifB_true, calls_eq (xs := [v, iv 0, iv 20, iv T.length, cmpV]) e3, asI_int, m3]
          rfl
        have x2 : f114_l2 rn 2000 v (T.length : Int) cmpV [iv 40] g3 = some (.exit 2, [iv 40], g3) := by
          unfold f114_l2
          rw [g00, asI_int, lt_f (by omega), ifB_false]
          rfl
        exact (lpGo_next (m := 1999) x1).trans (lpGo_exit (m := 1998) x2)
      rw [lp_eq e4, onE_exit, if_pos rfl]

/-- Calls with their places. -/
def tagK (L : List Kl) : List Tg := L.zipIdx

theorem fsts_tag (L : List Kl) : fsts (tagK L) = L := by
  unfold fsts tagK
  exact List.zipIdx_map_fst _ _

theorem inc_tag (L : List Kl) : IncT (tagK L) := by
  unfold IncT tagK
  rw [List.pairwise_iff_getElem]
  intro i j hi hj hij
  simp
  exact hij

theorem s108 {h : H} {b : Nat} {v : Value} {L : List Kl} (ka : KA h b v L) (hsm : ∀ x ∈ L, 0 ≤ x.t ∧ x.t ≤ 1000) (hl : L.length < 40) :
    ∃ h' S, rn 108 #[v, cmpV] h = some (undef, h') ∧ Fk h h' b ∧ KA h' b v (fsts S) ∧ (tagK L).Perm S ∧ Srt S := by
  have hlen : (tagK L).length = L.length := by unfold tagK; simp
  obtain ⟨g, S, e, f, k, p, s⟩ := s114 (h := h) (b := b) (v := v) (T := tagK L) (by rw [fsts_tag]; exact ka) (inc_tag L) (fun x hx => hsm x.1 (by have := List.mem_map_of_mem (f := Prod.fst) hx; rw [show (tagK L).map Prod.fst = L from fsts_tag L] at this; exact this)) (by omega) rfl
  obtain ⟨t1, t2⟩ := fk_trunc (w := undef) f ka.lt k
  refine ⟨_, S, t108 (k := 2000) (v := undef) (h1 := g) ?_, t1, t2, p, s⟩
  unfold f108
  obtain ⟨c, hv, _⟩ := ka.val
  rw [hlen] at e
  rw [show ∀ K : Int → Option (Value × H), AM.len v K = K (L.length : Int) from fun K => by rw [hv]; rfl]
  rw [calls_eq (xs := [v, iv L.length, cmpV]) e]

end Go.AM

end
