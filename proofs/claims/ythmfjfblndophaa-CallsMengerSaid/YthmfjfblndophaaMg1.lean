/- Parts of the proof, put together: what the functions of the program answer, and plain laws. -/
import Derived.Test.YthmfjfblndophaaAmSim
import Derived.Test.YthmfjfblndophaaProg
import Derived.KernelRfl

section

/- The seat's environment, what its types are, and calls in the end. -/
namespace Go.AM
open Go.Proofs
/-- No package-level variables; the calls that are made by themselves. -/
def E0 : Env := ⟨0, fun _ => none, fun f => f == 22 || f == 1000033⟩

noncomputable abbrev rn : Rec := run Try.prog E0

variable {R : Type} {h : H} {b o : Nat} {v : Value}
theorem ag0 : aggT Try.prog 0 = some false := by kernel_rfl

theorem sz0 : size? Try.prog 0 = some 1 := by kernel_rfl

theorem d0 {K : Value → Option R} : ld Try.prog h 0 b o K = (h.cell b o).bind K := ld_scS ag0

theorem w0 {K : H → Option R} : st Try.prog h 0 b o v K = (wrc 1 h b o v).bind K := st_S sz0

theorem ag1 : aggT Try.prog 1 = some false := by kernel_rfl

theorem sz1 : size? Try.prog 1 = some 1 := by kernel_rfl

theorem d1 {K : Value → Option R} : ld Try.prog h 1 b o K = (h.cell b o).bind K := ld_scS ag1

theorem w1 {K : H → Option R} : st Try.prog h 1 b o v K = (wrc 1 h b o v).bind K := st_S sz1

theorem ag2 : aggT Try.prog 2 = some false := by kernel_rfl

theorem sz2 : size? Try.prog 2 = some 1 := by kernel_rfl

theorem d2 {K : Value → Option R} : ld Try.prog h 2 b o K = (h.cell b o).bind K := ld_scS ag2

theorem w2 {K : H → Option R} : st Try.prog h 2 b o v K = (wrc 1 h b o v).bind K := st_S sz2

theorem ag3 : aggT Try.prog 3 = some false := by kernel_rfl

theorem sz3 : size? Try.prog 3 = some 1 := by kernel_rfl

theorem d3 {K : Value → Option R} : ld Try.prog h 3 b o K = (h.cell b o).bind K := ld_scS ag3

theorem w3 {K : H → Option R} : st Try.prog h 3 b o v K = (wrc 1 h b o v).bind K := st_S sz3

theorem sz7 : size? Try.prog 7 = some 4 := by kernel_rfl

theorem w7 {K : H → Option R} : st Try.prog h 7 b o v K = (wrc 4 h b o v).bind K := st_S sz7

theorem sz8 : size? Try.prog 8 = some 4 := by kernel_rfl

theorem w8 {K : H → Option R} : st Try.prog h 8 b o v K = (wrc 4 h b o v).bind K := st_S sz8

theorem sz10 : size? Try.prog 10 = some 1 := by kernel_rfl

theorem w10 {K : H → Option R} : st Try.prog h 10 b o v K = (wrc 1 h b o v).bind K := st_S sz10

theorem ag22 : aggT Try.prog 22 = some false := by kernel_rfl

theorem sz22 : size? Try.prog 22 = some 1 := by kernel_rfl

theorem d22 {K : Value → Option R} : ld Try.prog h 22 b o K = (h.cell b o).bind K := ld_scS ag22

theorem w22 {K : H → Option R} : st Try.prog h 22 b o v K = (wrc 1 h b o v).bind K := st_S sz22

theorem sz23 : size? Try.prog 23 = some 2 := by kernel_rfl

theorem w23 {K : H → Option R} : st Try.prog h 23 b o v K = (wrc 2 h b o v).bind K := st_S sz23

theorem ag24 : aggT Try.prog 24 = some true := by kernel_rfl

theorem sz24 : size? Try.prog 24 = some 2 := by kernel_rfl

theorem d24 {K : Value → Option R} : ld Try.prog h 24 b o K = (h.rd b o 2).bind fun l => K (.agg l.toArray) := ld_agS ag24 sz24

theorem w24 {K : H → Option R} : st Try.prog h 24 b o v K = (wrc 2 h b o v).bind K := st_S sz24

theorem ag25 : aggT Try.prog 25 = some false := by kernel_rfl

theorem sz25 : size? Try.prog 25 = some 1 := by kernel_rfl

theorem d25 {K : Value → Option R} : ld Try.prog h 25 b o K = (h.cell b o).bind K := ld_scS ag25

theorem w25 {K : H → Option R} : st Try.prog h 25 b o v K = (wrc 1 h b o v).bind K := st_S sz25

theorem ag29 : aggT Try.prog 29 = some false := by kernel_rfl

theorem sz29 : size? Try.prog 29 = some 1 := by kernel_rfl

theorem d29 {K : Value → Option R} : ld Try.prog h 29 b o K = (h.cell b o).bind K := ld_scS ag29

theorem w29 {K : H → Option R} : st Try.prog h 29 b o v K = (wrc 1 h b o v).bind K := st_S sz29

theorem ag31 : aggT Try.prog 31 = some true := by kernel_rfl

theorem sz31 : size? Try.prog 31 = some 2 := by kernel_rfl

theorem d31 {K : Value → Option R} : ld Try.prog h 31 b o K = (h.rd b o 2).bind fun l => K (.agg l.toArray) := ld_agS ag31 sz31

theorem w31 {K : H → Option R} : st Try.prog h 31 b o v K = (wrc 2 h b o v).bind K := st_S sz31

theorem ag56 : aggT Try.prog 56 = some true := by kernel_rfl

theorem sz56 : size? Try.prog 56 = some 3 := by kernel_rfl

theorem d56 {K : Value → Option R} : ld Try.prog h 56 b o K = (h.rd b o 3).bind fun l => K (.agg l.toArray) := ld_agS ag56 sz56

theorem ag58 : aggT Try.prog 58 = some false := by kernel_rfl

theorem sz58 : size? Try.prog 58 = some 1 := by kernel_rfl

theorem d58 {K : Value → Option R} : ld Try.prog h 58 b o K = (h.cell b o).bind K := ld_scS ag58

theorem w58 {K : H → Option R} : st Try.prog h 58 b o v K = (wrc 1 h b o v).bind K := st_S sz58

theorem ag59 : aggT Try.prog 59 = some true := by kernel_rfl

theorem sz59 : size? Try.prog 59 = some 3 := by kernel_rfl

theorem d59 {K : Value → Option R} : ld Try.prog h 59 b o K = (h.rd b o 3).bind fun l => K (.agg l.toArray) := ld_agS ag59 sz59

theorem ag61 : aggT Try.prog 61 = some false := by kernel_rfl

theorem d61 {K : Value → Option R} : ld Try.prog h 61 b o K = (h.cell b o).bind K := ld_scS ag61

theorem ag89 : aggT Try.prog 89 = some false := by kernel_rfl

theorem d89 {K : Value → Option R} : ld Try.prog h 89 b o K = (h.cell b o).bind K := ld_scS ag89

theorem ag113 : aggT Try.prog 113 = some true := by kernel_rfl

theorem sz113 : size? Try.prog 113 = some 3 := by kernel_rfl

theorem d113 {K : Value → Option R} : ld Try.prog h 113 b o K = (h.rd b o 3).bind fun l => K (.agg l.toArray) := ld_agS ag113 sz113

theorem ag115 : aggT Try.prog 115 = some false := by kernel_rfl

theorem d115 {K : Value → Option R} : ld Try.prog h 115 b o K = (h.cell b o).bind K := ld_scS ag115

theorem ag116 : aggT Try.prog 116 = some false := by kernel_rfl

theorem d116 {K : Value → Option R} : ld Try.prog h 116 b o K = (h.cell b o).bind K := ld_scS ag116

theorem ag121 : aggT Try.prog 121 = some false := by kernel_rfl

theorem sz121 : size? Try.prog 121 = some 1 := by kernel_rfl

theorem d121 {K : Value → Option R} : ld Try.prog h 121 b o K = (h.cell b o).bind K := ld_scS ag121

theorem w121 {K : H → Option R} : st Try.prog h 121 b o v K = (wrc 1 h b o v).bind K := st_S sz121

end Go.AM

end

section

/- The staged forms of functions 3, 6, 11, 14, 17, 18, 19, 20, 21, 23, 24, 25, 26, 27, 28, 29, 34, 35, 36, 37, 38, 39, 40, 41, 42, 43, 45, and what calls of these answer. -/
namespace Go.AM
open Go.Proofs
noncomputable def f3 (rec : Rec) (_k : Nat) (v0 : Value) (n0 : Int) (n1 : Int) (h0 : H) : Option (Value × H) :=
  bx h0 24 v0 fun h1 =>
  ld Try.prog h1 24 (nx h0) 0 fun v1 =>
  calls rec h1 18 [v1] fun v2 h2 =>
  calls rec h2 17 [v2, (.int .i64 n0), (.int .i64 n1)] fun v3 h3 =>
  ext v3 0 fun v4 =>
  ext v3 1 fun v5 =>
  asI .i64 v5 fun n2 =>
  ld Try.prog h3 24 (nx h0) 0 fun v6 =>
  calls rec h3 18 [v6] fun v7 h4 =>
  calls rec h4 19 [v7, (.int .i64 n0), (.int .i64 n1)] fun v8 h5 =>
  ext v8 0 fun v9 =>
  ext v8 1 fun v10 =>
  asI .i64 v10 fun n3 =>
  ld Try.prog h5 24 (nx h0) 0 fun v11 =>
  calls rec h5 18 [v11] fun v12 h6 =>
  calls rec h6 20 [v12, (.int .i64 n0), (.int .i64 n1)] fun v13 h7 =>
  ext v13 0 fun v14 =>
  ext v13 1 fun v15 =>
  asI .i64 v15 fun n4 =>
  ld Try.prog h7 24 (nx h0) 0 fun v16 =>
  calls rec h7 21 [v16, (.int .i64 n0), (.int .i64 n1)] fun v17 h8 =>
  asB v17 fun q0 =>
  ifB (not q0) (
    len v4 fun n5 =>
    len v9 fun n6 =>
    len v14 fun n7 =>
    ifB (eq (add .i64 (add .i64 n5 n6) n7) 0) (
      ifB (eq n2 2) (
        ifB (eq n3 2) (
          ifB (eq n4 2) (
            calls rec h8 22 [] fun v18 h9 =>
            asB v18 fun q1 =>
            some ((.bool q1), h9)) (
            some ((.bool false), h8))) (
          some ((.bool false), h8))) (
        some ((.bool false), h8))) (
      some ((.bool false), h8))) (
    ld Try.prog h8 24 (nx h0) 0 fun v19 =>
    calls rec h8 23 [v19, (.int .i64 n0), (.int .i64 n1)] fun v20 h10 =>
    ext v20 0 fun v21 =>
    ext v20 1 fun v22 =>
    asI .i64 v22 fun n8 =>
    ld Try.prog h10 24 (nx h0) 0 fun v23 =>
    calls rec h10 24 [v23, (.int .i64 n0), (.int .i64 n1)] fun v24 h11 =>
    ext v24 0 fun v25 =>
    ext v24 1 fun v26 =>
    asI .i64 v26 fun n9 =>
    ld Try.prog h11 24 (nx h0) 0 fun v27 =>
    calls rec h11 25 [v27, (.int .i64 n0), (.int .i64 n1)] fun v28 h12 =>
    ext v28 0 fun v29 =>
    ext v28 1 fun v30 =>
    asI .i64 v30 fun n10 =>
    calls rec h12 26 [v4, v21] fun v31 h13 =>
    asB v31 fun q2 =>
    ifB q2 (
      calls rec h13 26 [v9, v25] fun v32 h14 =>
      asB v32 fun q3 =>
      ifB q3 (
        calls rec h14 26 [v14, v29] fun v33 h15 =>
        asB v33 fun q4 =>
        ifB q4 (
          ifB (eq n2 n8) (
            ifB (eq n3 n9) (
              ifB (eq n4 n10) (
                calls rec h15 22 [] fun v34 h16 =>
                asB v34 fun q5 =>
                some ((.bool q5), h16)) (
                some ((.bool false), h15))) (
              some ((.bool false), h15))) (
            some ((.bool false), h15))) (
          some ((.bool false), h15))) (
        some ((.bool false), h14))) (
      some ((.bool false), h13)))

theorem e3 (rec : Rec) (k : Nat) (v0 : Value) (n0 : Int) (n1 : Int) (h : H) : bodyT Try.prog E0 SC (XC Try.prog rec k) 3 (Value × H) [.opq v0, .int .i64 n0, .int .i64 n1] h (fun v h => some (v, h)) = f3 rec k v0 n0 n1 h := by kernel_rfl

theorem t3 {k : Nat} {v0 : Value} {n0 : Int} {n1 : Int} {h h1 : H} {v : Value} (hh : f3 rn k v0 n0 n1 h = some (v, h1)) : rn 3 #[v0, .int .i64 n0, .int .i64 n1] h = some (v, trunc Try.prog h h1 v) :=
  run_of_bodyT (args := [.opq v0, .int .i64 n0, .int .i64 n1]) rfl ((e3 _ _ _ _ _ _).trans hh)

theorem p3 {k : Nat} {v0 : Value} {n0 : Int} {n1 : Int} {h h1 : H} {v : Value} (hh : f3 rn k v0 n0 n1 h = some (v, h1)) (hp : plainO v = true) (x : Ext h h1) : rn 3 #[v0, .int .i64 n0, .int .i64 n1] h = some (v, h) := by rw [t3 hh, trunc_pure hp x]

theorem x3 {k : Nat} {v0 : Value} {n0 : Int} {n1 : Int} {h h1 : H} {v : Value} (hh : f3 rn k v0 n0 n1 h = some (v, h1)) (hp : plainO v = false) : rn 3 #[v0, .int .i64 n0, .int .i64 n1] h = some (v, h1) := by rw [t3 hh, trunc_not hp]

noncomputable def f6 (rec : Rec) (_k : Nat) (v0 : Value) (n0 : Int) (h0 : H) : Option (Value × H) :=
  bx h0 24 v0 fun h1 =>
  ld Try.prog h1 24 (nx h0) 0 fun v1 =>
  calls rec h1 18 [v1] fun v2 h2 =>
  calls rec h2 37 [v2] fun v3 h3 =>
  ext v3 0 fun v4 =>
  ext v3 1 fun v5 =>
  asI .i64 v5 fun n1 =>
  ld Try.prog h3 24 (nx h0) 0 fun v6 =>
  calls rec h3 18 [v6] fun v7 h4 =>
  calls rec h4 38 [v7, (.int .i64 n0)] fun v8 h5 =>
  ext v8 0 fun v9 =>
  ext v8 1 fun v10 =>
  asI .i64 v10 fun n2 =>
  ld Try.prog h5 24 (nx h0) 0 fun v11 =>
  calls rec h5 18 [v11] fun v12 h6 =>
  calls rec h6 39 [v12] fun v13 h7 =>
  ext v13 0 fun v14 =>
  ext v13 1 fun v15 =>
  asI .i64 v15 fun n3 =>
  ld Try.prog h7 24 (nx h0) 0 fun v16 =>
  calls rec h7 35 [v16] fun v17 h8 =>
  asB v17 fun q0 =>
  ifB (not q0) (
    len v4 fun n4 =>
    len v9 fun n5 =>
    len v14 fun n6 =>
    ifB (eq (add .i64 (add .i64 n4 n5) n6) 0) (
      ifB (eq n1 2) (
        ifB (eq n2 2) (
          ifB (eq n3 2) (
            calls rec h8 22 [] fun v18 h9 =>
            asB v18 fun q1 =>
            some ((.bool q1), h9)) (
            some ((.bool false), h8))) (
          some ((.bool false), h8))) (
        some ((.bool false), h8))) (
      some ((.bool false), h8))) (
    ld Try.prog h8 24 (nx h0) 0 fun v19 =>
    calls rec h8 40 [v19] fun v20 h10 =>
    calls rec h10 26 [v4, v20] fun v21 h11 =>
    asB v21 fun q2 =>
    ifB (not q2) (
      some ((.bool false), h11)) (
      ifB (not (eq n1 0)) (
        some ((.bool false), h11)) (
        ld Try.prog h11 24 (nx h0) 0 fun v22 =>
        calls rec h11 41 [v22] fun v23 h12 =>
        calls rec h12 26 [v14, v23] fun v24 h13 =>
        asB v24 fun q3 =>
        ifB (not q3) (
          some ((.bool false), h13)) (
          ifB (not (eq n3 0)) (
            some ((.bool false), h13)) (
            calls rec h13 22 [] fun v25 h14 =>
            asB v25 fun q4 =>
            ifB (not q4) (
              some ((.bool false), h14)) (
              ld Try.prog h14 24 (nx h0) 0 fun v26 =>
              calls rec h14 42 [v26, (.int .i64 n0)] fun v27 h15 =>
              asB v27 fun q5 =>
              ifB (not q5) (
                len v9 fun n7 =>
                ifB (eq n7 0) (
                  some ((.bool (eq n2 2)), h15)) (
                  some ((.bool false), h15))) (
                ld Try.prog h15 24 (nx h0) 0 fun v28 =>
                calls rec h15 43 [v28, (.int .i64 n0)] fun v29 h16 =>
                calls rec h16 26 [v9, v29] fun v30 h17 =>
                asB v30 fun q6 =>
                ifB q6 (
                  some ((.bool (eq n2 0)), h17)) (
                  some ((.bool false), h17)))))))))

theorem e6 (rec : Rec) (k : Nat) (v0 : Value) (n0 : Int) (h : H) : bodyT Try.prog E0 SC (XC Try.prog rec k) 6 (Value × H) [.opq v0, .int .i64 n0] h (fun v h => some (v, h)) = f6 rec k v0 n0 h := by kernel_rfl

theorem t6 {k : Nat} {v0 : Value} {n0 : Int} {h h1 : H} {v : Value} (hh : f6 rn k v0 n0 h = some (v, h1)) : rn 6 #[v0, .int .i64 n0] h = some (v, trunc Try.prog h h1 v) :=
  run_of_bodyT (args := [.opq v0, .int .i64 n0]) rfl ((e6 _ _ _ _ _).trans hh)

theorem x6 {k : Nat} {v0 : Value} {n0 : Int} {h h1 : H} {v : Value} (hh : f6 rn k v0 n0 h = some (v, h1)) (hp : plainO v = false) : rn 6 #[v0, .int .i64 n0] h = some (v, h1) := by rw [t6 hh, trunc_not hp]

noncomputable def f11 (rec : Rec) (_k : Nat) (v0 : Value) (h0 : H) : Option (Value × H) :=
  bx h0 24 v0 fun h1 =>
  ld Try.prog h1 24 (nx h0) 0 fun v1 =>
  calls rec h1 18 [v1] fun v2 h2 =>
  calls rec h2 57 [v2] fun v3 h3 =>
  ext v3 0 fun v4 =>
  ext v3 1 fun v5 =>
  asI .i64 v5 fun n0 =>
  al h3 31 [(.int .i64 0), (.slice none 0 0)] fun h4 =>
  st Try.prog h4 31 (nx h3) 0 v4 fun h5 =>
  ld Try.prog h5 24 (nx h0) 0 fun v6 =>
  calls rec h5 35 [v6] fun v7 h6 =>
  asB v7 fun q0 =>
  ifB (not q0) (
    ld Try.prog h6 31 (nx h3) 0 fun v8 =>
    calls rec h6 32 [v8] fun v9 h7 =>
    asB v9 fun q1 =>
    ifB q1 (
      ifB (eq n0 2) (
        calls rec h7 22 [] fun v10 h8 =>
        asB v10 fun q2 =>
        some ((.bool q2), h8)) (
        some ((.bool false), h7))) (
      some ((.bool false), h7))) (
    ld Try.prog h6 24 (nx h0) 0 fun v11 =>
    calls rec h6 58 [v11] fun v12 h9 =>
    al h9 24 [(.int .i64 0), (.slice none 0 0)] fun h10 =>
    st Try.prog h10 24 (nx h9) 0 v12 fun h11 =>
    ld Try.prog h11 3 (nx h3) 0 fun v13 =>
    asI .i64 v13 fun n1 =>
    ld Try.prog h11 3 (nx h9) 0 fun v14 =>
    asI .i64 v14 fun n2 =>
    ifB (eq n1 n2) (
      ld Try.prog h11 31 (nx h3) 0 fun v15 =>
      calls rec h11 33 [v15] fun v16 h12 =>
      fld Try.prog 24 v16 1 fun v17 =>
      ld Try.prog h12 22 (nx h9) (off 0 1) fun v18 =>
      ck (freq (nx h9) (nx h11) (same h12 h11)) (
        calls rec h12 59 [v17, v18] fun v19 h13 =>
        asB v19 fun q3 =>
        ifB q3 (
          ifB (eq n0 0) (
            calls rec h13 22 [] fun v20 h14 =>
            asB v20 fun q4 =>
            some ((.bool q4), h14)) (
            some ((.bool false), h13))) (
          some ((.bool false), h13)))) (
      some ((.bool false), h11)))

theorem e11 (rec : Rec) (k : Nat) (v0 : Value) (h : H) : bodyT Try.prog E0 SC (XC Try.prog rec k) 11 (Value × H) [.opq v0] h (fun v h => some (v, h)) = f11 rec k v0 h := by kernel_rfl

theorem t11 {k : Nat} {v0 : Value} {h h1 : H} {v : Value} (hh : f11 rn k v0 h = some (v, h1)) : rn 11 #[v0] h = some (v, trunc Try.prog h h1 v) :=
  run_of_bodyT (args := [.opq v0]) rfl ((e11 _ _ _ _).trans hh)

theorem x11 {k : Nat} {v0 : Value} {h h1 : H} {v : Value} (hh : f11 rn k v0 h = some (v, h1)) (hp : plainO v = false) : rn 11 #[v0] h = some (v, h1) := by rw [t11 hh, trunc_not hp]

noncomputable def f14 (rec : Rec) (_k : Nat) (v0 : Value) (n0 : Int) (h0 : H) : Option (Value × H) :=
  bx h0 24 v0 fun h1 =>
  ld Try.prog h1 24 (nx h0) 0 fun v1 =>
  calls rec h1 18 [v1] fun v2 h2 =>
  calls rec h2 45 [v2, (.int .i64 n0)] fun v3 h3 =>
  ext v3 0 fun v4 =>
  ext v3 1 fun v5 =>
  asI .i64 v5 fun n1 =>
  ld Try.prog h3 24 (nx h0) 0 fun v6 =>
  calls rec h3 18 [v6] fun v7 h4 =>
  calls rec h4 62 [v7, (.int .i64 n0)] fun v8 h5 =>
  ext v8 0 fun v9 =>
  ext v8 1 fun v10 =>
  asI .i64 v10 fun n2 =>
  ld Try.prog h5 24 (nx h0) 0 fun v11 =>
  calls rec h5 35 [v11] fun v12 h6 =>
  asB v12 fun q0 =>
  ifB (not q0) (
    len v4 fun n3 =>
    len v9 fun n4 =>
    ifB (eq (add .i64 n3 n4) 0) (
      ifB (eq n1 2) (
        ifB (eq n2 2) (
          calls rec h6 22 [] fun v13 h7 =>
          asB v13 fun q1 =>
          some ((.bool q1), h7)) (
          some ((.bool false), h6))) (
        some ((.bool false), h6))) (
      some ((.bool false), h6))) (
    ld Try.prog h6 24 (nx h0) 0 fun v14 =>
    calls rec h6 42 [v14, (.int .i64 n0)] fun v15 h8 =>
    asB v15 fun q2 =>
    ifB (not q2) (
      len v4 fun n5 =>
      len v9 fun n6 =>
      ifB (eq (add .i64 n5 n6) 0) (
        ifB (eq n1 2) (
          ifB (eq n2 2) (
            calls rec h8 22 [] fun v16 h9 =>
            asB v16 fun q3 =>
            some ((.bool q3), h9)) (
            some ((.bool false), h8))) (
          some ((.bool false), h8))) (
        some ((.bool false), h8))) (
      ld Try.prog h8 24 (nx h0) 0 fun v17 =>
      calls rec h8 63 [v17, (.int .i64 n0)] fun v18 h10 =>
      calls rec h10 26 [v4, v18] fun v19 h11 =>
      asB v19 fun q4 =>
      ifB q4 (
        ld Try.prog h11 24 (nx h0) 0 fun v20 =>
        calls rec h11 64 [v20, (.int .i64 n0)] fun v21 h12 =>
        calls rec h12 26 [v9, v21] fun v22 h13 =>
        asB v22 fun q5 =>
        ifB q5 (
          ifB (eq n1 0) (
            ifB (eq n2 0) (
              calls rec h13 22 [] fun v23 h14 =>
              asB v23 fun q6 =>
              some ((.bool q6), h14)) (
              some ((.bool false), h13))) (
            some ((.bool false), h13))) (
          some ((.bool false), h13))) (
        some ((.bool false), h11))))

theorem e14 (rec : Rec) (k : Nat) (v0 : Value) (n0 : Int) (h : H) : bodyT Try.prog E0 SC (XC Try.prog rec k) 14 (Value × H) [.opq v0, .int .i64 n0] h (fun v h => some (v, h)) = f14 rec k v0 n0 h := by kernel_rfl

theorem t14 {k : Nat} {v0 : Value} {n0 : Int} {h h1 : H} {v : Value} (hh : f14 rn k v0 n0 h = some (v, h1)) : rn 14 #[v0, .int .i64 n0] h = some (v, trunc Try.prog h h1 v) :=
  run_of_bodyT (args := [.opq v0, .int .i64 n0]) rfl ((e14 _ _ _ _ _).trans hh)

theorem x14 {k : Nat} {v0 : Value} {n0 : Int} {h h1 : H} {v : Value} (hh : f14 rn k v0 n0 h = some (v, h1)) (hp : plainO v = false) : rn 14 #[v0, .int .i64 n0] h = some (v, h1) := by rw [t14 hh, trunc_not hp]

noncomputable def f17 (rec : Rec) (_k : Nat) (v0 : Value) (n0 : Int) (n1 : Int) (h0 : H) : Option (Value × H) :=
  bx h0 31 v0 fun h1 =>
  ld Try.prog h1 31 (nx h0) 0 fun v1 =>
  ld Try.prog h1 31 (nx h0) 0 fun v2 =>
  calls rec h1 65 [v1, (.int .i64 n0), (.int .i64 n1), (.func (.func 66) #[v2] #[])] fun v3 h2 =>
  ext v3 0 fun v4 =>
  ext v3 1 fun v5 =>
  asI .i64 v5 fun n2 =>
  some ((.tuple #[v4, (.int .i64 n2)]), h2)

theorem e17 (rec : Rec) (k : Nat) (v0 : Value) (n0 : Int) (n1 : Int) (h : H) : bodyT Try.prog E0 SC (XC Try.prog rec k) 17 (Value × H) [.opq v0, .int .i64 n0, .int .i64 n1] h (fun v h => some (v, h)) = f17 rec k v0 n0 n1 h := by kernel_rfl

theorem t17 {k : Nat} {v0 : Value} {n0 : Int} {n1 : Int} {h h1 : H} {v : Value} (hh : f17 rn k v0 n0 n1 h = some (v, h1)) : rn 17 #[v0, .int .i64 n0, .int .i64 n1] h = some (v, trunc Try.prog h h1 v) :=
  run_of_bodyT (args := [.opq v0, .int .i64 n0, .int .i64 n1]) rfl ((e17 _ _ _ _ _ _).trans hh)

theorem x17 {k : Nat} {v0 : Value} {n0 : Int} {n1 : Int} {h h1 : H} {v : Value} (hh : f17 rn k v0 n0 n1 h = some (v, h1)) (hp : plainO v = false) : rn 17 #[v0, .int .i64 n0, .int .i64 n1] h = some (v, h1) := by rw [t17 hh, trunc_not hp]

noncomputable def f18_l1 (_rec : Rec) (_k : Nat) (h2 : H) (v3 : Value) (n1 : Int) (ws0 : List Value) (h5 : H) : Option (Ex × List Value × H) :=
  asI .i64 (gv ws0 0) fun n2 =>
  ifB (lt n2 n1) (
    asK (gv ws0 0) fun n3 =>
    six v3 n3 3 fun b0 b1 =>
    ld Try.prog h5 59 b0 b1 fun v4 =>
    al h5 59 [(.int .i64 0), (.int .i64 0), (.int .i64 0)] fun h6 =>
    st Try.prog h6 59 (nx h5) 0 v4 fun h7 =>
    asI .i64 (gv ws0 0) fun n4 =>
    ifB (lt n4 26) (
      ld Try.prog h7 29 (nx h2) (off 0 1) fun v5 =>
      ld Try.prog h7 3 (nx h5) 0 fun v6 =>
      asI .i64 v6 fun n5 =>
      ld Try.prog h7 3 (nx h5) (off 0 1) fun v7 =>
      asI .i64 v7 fun n6 =>
      ld Try.prog h7 3 (nx h5) (off 0 2) fun v8 =>
      asI .i64 v8 fun n7 =>
      bld Try.prog 56 [(0, (.int .i64 n5)), (1, (.int .i64 n6)), (2, (.int .i64 n7))] fun v9 =>
      bls Try.prog h7 29 1 [(0, v9)] fun v10 h8 =>
      app Try.prog h8 29 29 v5 v10 fun v11 h9 =>
      st Try.prog h9 29 (nx h2) (off 0 1) v11 fun h10 =>
      asI .i64 (gv ws0 0) fun n8 =>
      out .normal [(.int .i64 (add .i64 n8 1))] h10) (
      asI .i64 (gv ws0 0) fun n9 =>
      out .normal [(.int .i64 (add .i64 n9 1))] h7)) (
    out (.exit 0) [gv ws0 0] h5)

noncomputable def f18 (rec : Rec) (k : Nat) (v0 : Value) (h0 : H) : Option (Value × H) :=
  bx h0 24 v0 fun h1 =>
  al h1 31 [(.int .i64 0), (.slice none 0 0)] fun h2 =>
  ld Try.prog h2 3 (nx h0) 0 fun v1 =>
  asI .i64 v1 fun n0 =>
  bld Try.prog 31 [(0, (.int .i64 n0))] fun v2 =>
  al h2 31 [(.int .i64 0), (.slice none 0 0)] fun h3 =>
  st Try.prog h3 31 (nx h2) 0 v2 fun h4 =>
  ld Try.prog h4 22 (nx h0) (off 0 1) fun v3 =>
  len v3 fun n1 =>
  lp k (f18_l1 rec k h2 v3 n1) [(.int .i64 0)] h4 fun e0 _ h11 =>
  onE e0 0 (
    ld Try.prog h11 31 (nx h2) 0 fun v12 =>
    st Try.prog h11 31 (nx h1) 0 v12 fun h12 =>
    ld Try.prog h12 31 (nx h1) 0 fun v13 =>
    some (v13, h12)) (
    none)

theorem e18 (rec : Rec) (k : Nat) (v0 : Value) (h : H) : bodyT Try.prog E0 SC (XC Try.prog rec k) 18 (Value × H) [.opq v0] h (fun v h => some (v, h)) = f18 rec k v0 h := by kernel_rfl

theorem t18 {k : Nat} {v0 : Value} {h h1 : H} {v : Value} (hh : f18 rn k v0 h = some (v, h1)) : rn 18 #[v0] h = some (v, trunc Try.prog h h1 v) :=
  run_of_bodyT (args := [.opq v0]) rfl ((e18 _ _ _ _).trans hh)

theorem x18 {k : Nat} {v0 : Value} {h h1 : H} {v : Value} (hh : f18 rn k v0 h = some (v, h1)) (hp : plainO v = false) : rn 18 #[v0] h = some (v, h1) := by rw [t18 hh, trunc_not hp]

noncomputable def f19 (rec : Rec) (_k : Nat) (v0 : Value) (n0 : Int) (n1 : Int) (h0 : H) : Option (Value × H) :=
  bx h0 31 v0 fun h1 =>
  ld Try.prog h1 31 (nx h0) 0 fun v1 =>
  calls rec h1 65 [v1, (.int .i64 n0), (.int .i64 n1), (.func (.func 67) #[] #[])] fun v2 h2 =>
  ext v2 0 fun v3 =>
  ext v2 1 fun v4 =>
  asI .i64 v4 fun n2 =>
  some ((.tuple #[v3, (.int .i64 n2)]), h2)

theorem e19 (rec : Rec) (k : Nat) (v0 : Value) (n0 : Int) (n1 : Int) (h : H) : bodyT Try.prog E0 SC (XC Try.prog rec k) 19 (Value × H) [.opq v0, .int .i64 n0, .int .i64 n1] h (fun v h => some (v, h)) = f19 rec k v0 n0 n1 h := by kernel_rfl

theorem t19 {k : Nat} {v0 : Value} {n0 : Int} {n1 : Int} {h h1 : H} {v : Value} (hh : f19 rn k v0 n0 n1 h = some (v, h1)) : rn 19 #[v0, .int .i64 n0, .int .i64 n1] h = some (v, trunc Try.prog h h1 v) :=
  run_of_bodyT (args := [.opq v0, .int .i64 n0, .int .i64 n1]) rfl ((e19 _ _ _ _ _ _).trans hh)

theorem x19 {k : Nat} {v0 : Value} {n0 : Int} {n1 : Int} {h h1 : H} {v : Value} (hh : f19 rn k v0 n0 n1 h = some (v, h1)) (hp : plainO v = false) : rn 19 #[v0, .int .i64 n0, .int .i64 n1] h = some (v, h1) := by rw [t19 hh, trunc_not hp]

noncomputable def f20 (rec : Rec) (_k : Nat) (v0 : Value) (n0 : Int) (n1 : Int) (h0 : H) : Option (Value × H) :=
  bx h0 31 v0 fun h1 =>
  ld Try.prog h1 31 (nx h0) 0 fun v1 =>
  calls rec h1 65 [v1, (.int .i64 n0), (.int .i64 n1), (.func (.func 68) #[] #[(pt (nx h0) 0)])] fun v2 h2 =>
  ext v2 0 fun v3 =>
  ext v2 1 fun v4 =>
  asI .i64 v4 fun n2 =>
  some ((.tuple #[v3, (.int .i64 n2)]), h2)

theorem e20 (rec : Rec) (k : Nat) (v0 : Value) (n0 : Int) (n1 : Int) (h : H) : bodyT Try.prog E0 SC (XC Try.prog rec k) 20 (Value × H) [.opq v0, .int .i64 n0, .int .i64 n1] h (fun v h => some (v, h)) = f20 rec k v0 n0 n1 h := by kernel_rfl

theorem t20 {k : Nat} {v0 : Value} {n0 : Int} {n1 : Int} {h h1 : H} {v : Value} (hh : f20 rn k v0 n0 n1 h = some (v, h1)) : rn 20 #[v0, .int .i64 n0, .int .i64 n1] h = some (v, trunc Try.prog h h1 v) :=
  run_of_bodyT (args := [.opq v0, .int .i64 n0, .int .i64 n1]) rfl ((e20 _ _ _ _ _ _).trans hh)

theorem x20 {k : Nat} {v0 : Value} {n0 : Int} {n1 : Int} {h h1 : H} {v : Value} (hh : f20 rn k v0 n0 n1 h = some (v, h1)) (hp : plainO v = false) : rn 20 #[v0, .int .i64 n0, .int .i64 n1] h = some (v, h1) := by rw [t20 hh, trunc_not hp]

noncomputable def f21 (rec : Rec) (_k : Nat) (v0 : Value) (n0 : Int) (n1 : Int) (h0 : H) : Option (Value × H) :=
  bx h0 24 v0 fun h1 =>
  ld Try.prog h1 24 (nx h0) 0 fun v1 =>
  calls rec h1 35 [v1] fun v2 h2 =>
  asB v2 fun q0 =>
  ifB q0 (
    ld Try.prog h2 24 (nx h0) 0 fun v3 =>
    calls rec h2 42 [v3, (.int .i64 n0)] fun v4 h3 =>
    asB v4 fun q1 =>
    ifB q1 (
      ld Try.prog h3 24 (nx h0) 0 fun v5 =>
      calls rec h3 42 [v5, (.int .i64 n1)] fun v6 h4 =>
      asB v6 fun q2 =>
      ifB q2 (
        some ((.bool (not (eq n0 n1))), h4)) (
        some ((.bool false), h4))) (
      some ((.bool false), h3))) (
    some ((.bool false), h2))

theorem e21 (rec : Rec) (k : Nat) (v0 : Value) (n0 : Int) (n1 : Int) (h : H) : bodyT Try.prog E0 SC (XC Try.prog rec k) 21 (Value × H) [.opq v0, .int .i64 n0, .int .i64 n1] h (fun v h => some (v, h)) = f21 rec k v0 n0 n1 h := by kernel_rfl

theorem t21 {k : Nat} {v0 : Value} {n0 : Int} {n1 : Int} {h h1 : H} {v : Value} (hh : f21 rn k v0 n0 n1 h = some (v, h1)) : rn 21 #[v0, .int .i64 n0, .int .i64 n1] h = some (v, trunc Try.prog h h1 v) :=
  run_of_bodyT (args := [.opq v0, .int .i64 n0, .int .i64 n1]) rfl ((e21 _ _ _ _ _ _).trans hh)

theorem p21 {k : Nat} {v0 : Value} {n0 : Int} {n1 : Int} {h h1 : H} {v : Value} (hh : f21 rn k v0 n0 n1 h = some (v, h1)) (hp : plainO v = true) (x : Ext h h1) : rn 21 #[v0, .int .i64 n0, .int .i64 n1] h = some (v, h) := by rw [t21 hh, trunc_pure hp x]

theorem x21 {k : Nat} {v0 : Value} {n0 : Int} {n1 : Int} {h h1 : H} {v : Value} (hh : f21 rn k v0 n0 n1 h = some (v, h1)) (hp : plainO v = false) : rn 21 #[v0, .int .i64 n0, .int .i64 n1] h = some (v, h1) := by rw [t21 hh, trunc_not hp]

noncomputable def f23 (rec : Rec) (_k : Nat) (v0 : Value) (n0 : Int) (n1 : Int) (h0 : H) : Option (Value × H) :=
  bx h0 24 v0 fun h1 =>
  ld Try.prog h1 24 (nx h0) 0 fun v1 =>
  calls rec h1 70 [v1, (.int .i64 n0), (.int .i64 n1), (.int .i64 0)] fun v2 h2 =>
  ext v2 0 fun v3 =>
  ext v2 1 fun v4 =>
  asI .i64 v4 fun n2 =>
  some ((.tuple #[v3, (.int .i64 n2)]), h2)

theorem e23 (rec : Rec) (k : Nat) (v0 : Value) (n0 : Int) (n1 : Int) (h : H) : bodyT Try.prog E0 SC (XC Try.prog rec k) 23 (Value × H) [.opq v0, .int .i64 n0, .int .i64 n1] h (fun v h => some (v, h)) = f23 rec k v0 n0 n1 h := by kernel_rfl

theorem t23 {k : Nat} {v0 : Value} {n0 : Int} {n1 : Int} {h h1 : H} {v : Value} (hh : f23 rn k v0 n0 n1 h = some (v, h1)) : rn 23 #[v0, .int .i64 n0, .int .i64 n1] h = some (v, trunc Try.prog h h1 v) :=
  run_of_bodyT (args := [.opq v0, .int .i64 n0, .int .i64 n1]) rfl ((e23 _ _ _ _ _ _).trans hh)

theorem x23 {k : Nat} {v0 : Value} {n0 : Int} {n1 : Int} {h h1 : H} {v : Value} (hh : f23 rn k v0 n0 n1 h = some (v, h1)) (hp : plainO v = false) : rn 23 #[v0, .int .i64 n0, .int .i64 n1] h = some (v, h1) := by rw [t23 hh, trunc_not hp]

noncomputable def f24 (rec : Rec) (_k : Nat) (v0 : Value) (n0 : Int) (n1 : Int) (h0 : H) : Option (Value × H) :=
  bx h0 24 v0 fun h1 =>
  ld Try.prog h1 24 (nx h0) 0 fun v1 =>
  calls rec h1 70 [v1, (.int .i64 n0), (.int .i64 n1), (.int .i64 1)] fun v2 h2 =>
  ext v2 0 fun v3 =>
  ext v2 1 fun v4 =>
  asI .i64 v4 fun n2 =>
  some ((.tuple #[v3, (.int .i64 n2)]), h2)

theorem e24 (rec : Rec) (k : Nat) (v0 : Value) (n0 : Int) (n1 : Int) (h : H) : bodyT Try.prog E0 SC (XC Try.prog rec k) 24 (Value × H) [.opq v0, .int .i64 n0, .int .i64 n1] h (fun v h => some (v, h)) = f24 rec k v0 n0 n1 h := by kernel_rfl

theorem t24 {k : Nat} {v0 : Value} {n0 : Int} {n1 : Int} {h h1 : H} {v : Value} (hh : f24 rn k v0 n0 n1 h = some (v, h1)) : rn 24 #[v0, .int .i64 n0, .int .i64 n1] h = some (v, trunc Try.prog h h1 v) :=
  run_of_bodyT (args := [.opq v0, .int .i64 n0, .int .i64 n1]) rfl ((e24 _ _ _ _ _ _).trans hh)

theorem p24 {k : Nat} {v0 : Value} {n0 : Int} {n1 : Int} {h h1 : H} {v : Value} (hh : f24 rn k v0 n0 n1 h = some (v, h1)) (hp : plainO v = true) (x : Ext h h1) : rn 24 #[v0, .int .i64 n0, .int .i64 n1] h = some (v, h) := by rw [t24 hh, trunc_pure hp x]

theorem x24 {k : Nat} {v0 : Value} {n0 : Int} {n1 : Int} {h h1 : H} {v : Value} (hh : f24 rn k v0 n0 n1 h = some (v, h1)) (hp : plainO v = false) : rn 24 #[v0, .int .i64 n0, .int .i64 n1] h = some (v, h1) := by rw [t24 hh, trunc_not hp]

noncomputable def f25 (rec : Rec) (_k : Nat) (v0 : Value) (n0 : Int) (n1 : Int) (h0 : H) : Option (Value × H) :=
  bx h0 24 v0 fun h1 =>
  ld Try.prog h1 24 (nx h0) 0 fun v1 =>
  calls rec h1 70 [v1, (.int .i64 n0), (.int .i64 n1), (.int .i64 2)] fun v2 h2 =>
  ext v2 0 fun v3 =>
  ext v2 1 fun v4 =>
  asI .i64 v4 fun n2 =>
  some ((.tuple #[v3, (.int .i64 n2)]), h2)

theorem e25 (rec : Rec) (k : Nat) (v0 : Value) (n0 : Int) (n1 : Int) (h : H) : bodyT Try.prog E0 SC (XC Try.prog rec k) 25 (Value × H) [.opq v0, .int .i64 n0, .int .i64 n1] h (fun v h => some (v, h)) = f25 rec k v0 n0 n1 h := by kernel_rfl

theorem t25 {k : Nat} {v0 : Value} {n0 : Int} {n1 : Int} {h h1 : H} {v : Value} (hh : f25 rn k v0 n0 n1 h = some (v, h1)) : rn 25 #[v0, .int .i64 n0, .int .i64 n1] h = some (v, trunc Try.prog h h1 v) :=
  run_of_bodyT (args := [.opq v0, .int .i64 n0, .int .i64 n1]) rfl ((e25 _ _ _ _ _ _).trans hh)

theorem x25 {k : Nat} {v0 : Value} {n0 : Int} {n1 : Int} {h h1 : H} {v : Value} (hh : f25 rn k v0 n0 n1 h = some (v, h1)) (hp : plainO v = false) : rn 25 #[v0, .int .i64 n0, .int .i64 n1] h = some (v, h1) := by rw [t25 hh, trunc_not hp]

noncomputable def f26_l1 (_rec : Rec) (_k : Nat) (v0 : Value) (v1 : Value) (n2 : Int) (ws0 : List Value) (h1 : H) : Option (Ex × List Value × H) :=
  asI .i64 (gv ws0 1) fun n3 =>
  ifB (lt n3 n2) (
    asK (gv ws0 1) fun n4 =>
    six v0 n4 1 fun b0 b1 =>
    ld Try.prog h1 3 b0 b1 fun v2 =>
    asI .i64 v2 fun n5 =>
    asK (gv ws0 1) fun n6 =>
    six v1 n6 1 fun b2 b3 =>
    ld Try.prog h1 3 b2 b3 fun v3 =>
    asI .i64 v3 fun n7 =>
    ifB (not (eq n5 n7)) (
      out .ret [(.bool false), gv ws0 1] h1) (
      asI .i64 (gv ws0 1) fun n8 =>
      out .normal [gv ws0 0, (.int .i64 (add .i64 n8 1))] h1)) (
    out (.exit 0) [gv ws0 0, gv ws0 1] h1)

noncomputable def f26 (rec : Rec) (k : Nat) (v0 : Value) (v1 : Value) (h0 : H) : Option (Value × H) :=
  len v0 fun n0 =>
  len v1 fun n1 =>
  ifB (not (eq n0 n1)) (
    some ((.bool false), h0)) (
    len v0 fun n2 =>
    lp k (f26_l1 rec k v0 v1 n2) [(.bool false), (.int .i64 0)] h0 fun e0 ws1 h2 =>
    onE e0 0 (
      some ((.bool true), h2)) (
      onR e0 (
        some (gv ws1 0, h2))))

theorem e26 (rec : Rec) (k : Nat) (v0 : Value) (v1 : Value) (h : H) : bodyT Try.prog E0 SC (XC Try.prog rec k) 26 (Value × H) [.opq v0, .opq v1] h (fun v h => some (v, h)) = f26 rec k v0 v1 h := by kernel_rfl

theorem t26 {k : Nat} {v0 : Value} {v1 : Value} {h h1 : H} {v : Value} (hh : f26 rn k v0 v1 h = some (v, h1)) : rn 26 #[v0, v1] h = some (v, trunc Try.prog h h1 v) :=
  run_of_bodyT (args := [.opq v0, .opq v1]) rfl ((e26 _ _ _ _ _).trans hh)

theorem p26 {k : Nat} {v0 : Value} {v1 : Value} {h h1 : H} {v : Value} (hh : f26 rn k v0 v1 h = some (v, h1)) (hp : plainO v = true) (x : Ext h h1) : rn 26 #[v0, v1] h = some (v, h) := by rw [t26 hh, trunc_pure hp x]

noncomputable def f27_l1 (rec : Rec) (_k : Nat) (n1 : Int) (v1 : Value) (h0 : H) (n2 : Int) (ws0 : List Value) (h5 : H) : Option (Ex × List Value × H) :=
  asI .i64 (gv ws0 5) fun n3 =>
  ifB (lt n3 n2) (
    asK (gv ws0 5) fun n4 =>
    six v1 n4 1 fun b0 b1 =>
    ld Try.prog h5 3 b0 b1 fun v8 =>
    asI .i64 v8 fun n5 =>
    ifB (lt n5 0) (
      out .ret [(.bool false), (.int .i64 0), gv ws0 2, gv ws0 3, gv ws0 4, gv ws0 5] h5) (
      ld Try.prog h5 29 (nx h0) (off 0 1) fun v9 =>
      len v9 fun n6 =>
      ifB (le n6 n5) (
        out .ret [(.bool false), (.int .i64 0), gv ws0 2, gv ws0 3, gv ws0 4, gv ws0 5] h5) (
        asI .i64 (gv ws0 2) fun n7 =>
        ifB (eq n7 n1) (
          out .ret [(.bool false), (.int .i64 0), gv ws0 2, gv ws0 3, gv ws0 4, gv ws0 5] h5) (
          ld Try.prog h5 29 (nx h0) (off 0 1) fun v10 =>
          six v10 n5 3 fun b2 b3 =>
          ld Try.prog h5 56 b2 b3 fun v11 =>
          al h5 56 [(.int .i64 0), (.int .i64 0), (.int .i64 0)] fun h6 =>
          st Try.prog h6 56 (nx h5) 0 v11 fun h7 =>
          ld Try.prog h7 56 (nx h5) 0 fun v12 =>
          calls rec h7 73 [v12, gv ws0 2] fun v13 h8 =>
          asB v13 fun q3 =>
          ifB (not q3) (
            out .ret [(.bool false), (.int .i64 0), gv ws0 2, gv ws0 3, gv ws0 4, gv ws0 5] h8) (
            ld Try.prog h8 3 (nx h5) (off 0 2) fun v14 =>
            asI .i64 v14 fun n8 =>
            asI .i64 (gv ws0 3) fun n9 =>
            ifB (le n8 n9) (
              out .ret [(.bool false), (.int .i64 0), gv ws0 2, gv ws0 3, gv ws0 4, gv ws0 5] h8) (
              ld Try.prog h8 56 (nx h5) 0 fun v15 =>
              calls rec h8 74 [v15, gv ws0 2] fun v16 h9 =>
              asI .i64 v16 fun n10 =>
              asI .i64 (gv ws0 4) fun n11 =>
              nn n10 (
                ifB (eq (and .i64 (shr .i64 n11 n10) 1) 1) (
                  out .ret [(.bool false), (.int .i64 0), gv ws0 2, gv ws0 3, gv ws0 4, gv ws0 5] h9) (
                  ld Try.prog h9 56 (nx h5) 0 fun v17 =>
                  calls rec h9 74 [v17, gv ws0 2] fun v18 h10 =>
                  asI .i64 v18 fun n12 =>
                  ld Try.prog h10 3 (nx h5) (off 0 2) fun v19 =>
                  asI .i64 v19 fun n13 =>
                  ck (freq (nx h5) (nx h9) (same h10 h9)) (
                    nn n12 (
                      asI .i64 (gv ws0 4) fun n14 =>
                      asI .i64 (gv ws0 5) fun n15 =>
                      out .normal [gv ws0 0, gv ws0 1, (.int .i64 n12), (.int .i64 n13), (.int .i64 (or .i64 n14 (shl .i64 1 n12))), (.int .i64 (add .i64 n15 1))] h10)))))))))) (
    out (.exit 0) [gv ws0 0, gv ws0 1, gv ws0 2, gv ws0 3, gv ws0 4, gv ws0 5] h5)

noncomputable def f27 (rec : Rec) (k : Nat) (v0 : Value) (n0 : Int) (n1 : Int) (v1 : Value) (h0 : H) : Option (Value × H) :=
  bx h0 31 v0 fun h1 =>
  ld Try.prog h1 31 (nx h0) 0 fun v2 =>
  calls rec h1 71 [v2] fun v3 h2 =>
  asB v3 fun q0 =>
  ifB (not q0) (
    some ((.tuple #[(.bool false), (.int .i64 2)]), h2)) (
    ld Try.prog h2 31 (nx h0) 0 fun v4 =>
    calls rec h2 72 [v4, (.int .i64 n0)] fun v5 h3 =>
    asB v5 fun q1 =>
    ifB (not q1) (
      some ((.tuple #[(.bool false), (.int .i64 2)]), h3)) (
      ld Try.prog h3 31 (nx h0) 0 fun v6 =>
      calls rec h3 72 [v6, (.int .i64 n1)] fun v7 h4 =>
      asB v7 fun q2 =>
      ifB (not q2) (
        some ((.tuple #[(.bool false), (.int .i64 2)]), h4)) (
        ifB (eq n0 n1) (
          some ((.tuple #[(.bool false), (.int .i64 2)]), h4)) (
          nn n0 (
            len v1 fun n2 =>
            lp k (f27_l1 rec k n1 v1 h0 n2) [(.bool false), (.int .i64 0), (.int .i64 n0), (.int .i64 0), (.int .i64 (shl .i64 1 n0)), (.int .i64 0)] h4 fun e0 ws1 h11 =>
            onE e0 0 (
              asI .i64 (gv ws1 2) fun n16 =>
              some ((.tuple #[(.bool (eq n16 n1)), (.int .i64 0)]), h11)) (
              onR e0 (
                some ((.tuple #[gv ws1 0, gv ws1 1]), h11))))))))

theorem e27 (rec : Rec) (k : Nat) (v0 : Value) (n0 : Int) (n1 : Int) (v1 : Value) (h : H) : bodyT Try.prog E0 SC (XC Try.prog rec k) 27 (Value × H) [.opq v0, .int .i64 n0, .int .i64 n1, .opq v1] h (fun v h => some (v, h)) = f27 rec k v0 n0 n1 v1 h := by kernel_rfl

theorem t27 {k : Nat} {v0 : Value} {n0 : Int} {n1 : Int} {v1 : Value} {h h1 : H} {v : Value} (hh : f27 rn k v0 n0 n1 v1 h = some (v, h1)) : rn 27 #[v0, .int .i64 n0, .int .i64 n1, v1] h = some (v, trunc Try.prog h h1 v) :=
  run_of_bodyT (args := [.opq v0, .int .i64 n0, .int .i64 n1, .opq v1]) rfl ((e27 _ _ _ _ _ _ _).trans hh)

theorem p27 {k : Nat} {v0 : Value} {n0 : Int} {n1 : Int} {v1 : Value} {h h1 : H} {v : Value} (hh : f27 rn k v0 n0 n1 v1 h = some (v, h1)) (hp : plainO v = true) (x : Ext h h1) : rn 27 #[v0, .int .i64 n0, .int .i64 n1, v1] h = some (v, h) := by rw [t27 hh, trunc_pure hp x]

noncomputable def f28 (rec : Rec) (_k : Nat) (v0 : Value) (h0 : H) : Option (Value × H) :=
  len v0 fun n0 =>
  sli Try.prog h0 25 v0 none (some (.int .i64 (imin n0 26))) none fun v1 =>
  calls rec h0 75 [v1] fun v2 h1 =>
  some (v2, h1)

theorem e28 (rec : Rec) (k : Nat) (v0 : Value) (h : H) : bodyT Try.prog E0 SC (XC Try.prog rec k) 28 (Value × H) [.opq v0] h (fun v h => some (v, h)) = f28 rec k v0 h := by kernel_rfl

noncomputable def f29_l1 (_rec : Rec) (_k : Nat) (n1 : Int) (v1 : Value) (h0 : H) (n2 : Int) (ws0 : List Value) (h2 : H) : Option (Ex × List Value × H) :=
  asI .i64 (gv ws0 4) fun n3 =>
  ifB (lt n3 n2) (
    asK (gv ws0 4) fun n4 =>
    six v1 n4 1 fun b0 b1 =>
    ld Try.prog h2 3 b0 b1 fun v2 =>
    asI .i64 v2 fun n5 =>
    ifB (lt n5 0) (
      out .ret [(.bool false), gv ws0 1, gv ws0 2, gv ws0 3, gv ws0 4] h2) (
      ld Try.prog h2 22 (nx h0) (off 0 1) fun v3 =>
      len v3 fun n6 =>
      ifB (le n6 n5) (
        out .ret [(.bool false), gv ws0 1, gv ws0 2, gv ws0 3, gv ws0 4] h2) (
        asI .i64 (gv ws0 1) fun n7 =>
        ifB (eq n7 n1) (
          out .ret [(.bool false), gv ws0 1, gv ws0 2, gv ws0 3, gv ws0 4] h2) (
          ld Try.prog h2 22 (nx h0) (off 0 1) fun v4 =>
          six v4 n5 3 fun b2 b3 =>
          ld Try.prog h2 59 b2 b3 fun v5 =>
          al h2 59 [(.int .i64 0), (.int .i64 0), (.int .i64 0)] fun h3 =>
          st Try.prog h3 59 (nx h2) 0 v5 fun h4 =>
          ld Try.prog h4 3 (nx h2) 0 fun v6 =>
          asI .i64 v6 fun n8 =>
          asI .i64 (gv ws0 1) fun n9 =>
          ifB (not (eq n8 n9)) (
            ld Try.prog h4 3 (nx h2) (off 0 1) fun v7 =>
            asI .i64 v7 fun n10 =>
            asI .i64 (gv ws0 1) fun n11 =>
            ifB (not (eq n10 n11)) (
              out .ret [(.bool false), gv ws0 1, gv ws0 2, gv ws0 3, gv ws0 4] h4) (
              ld Try.prog h4 3 (nx h2) (off 0 2) fun v8 =>
              asI .i64 v8 fun n12 =>
              asI .i64 (gv ws0 2) fun n13 =>
              ifB (le n12 n13) (
                out .ret [(.bool false), gv ws0 1, gv ws0 2, gv ws0 3, gv ws0 4] h4) (
                ld Try.prog h4 3 (nx h2) 0 fun v9 =>
                asI .i64 v9 fun n14 =>
                ld Try.prog h4 3 (nx h2) (off 0 1) fun v10 =>
                asI .i64 v10 fun n15 =>
                asI .i64 (gv ws0 1) fun n16 =>
                ld Try.prog h4 3 (nx h2) (off 0 2) fun v11 =>
                asI .i64 v11 fun n17 =>
                asI .i64 (gv ws0 3) fun n18 =>
                nn (sub .i64 (add .i64 n14 n15) n16) (
                  ifB (eq (and .i64 (shr .i64 n18 (sub .i64 (add .i64 n14 n15) n16)) 1) 1) (
                    out .ret [(.bool false), (.int .i64 (sub .i64 (add .i64 n14 n15) n16)), (.int .i64 n17), gv ws0 3, gv ws0 4] h4) (
                    nn (sub .i64 (add .i64 n14 n15) n16) (
                      asI .i64 (gv ws0 3) fun n19 =>
                      asI .i64 (gv ws0 4) fun n20 =>
                      out .normal [gv ws0 0, (.int .i64 (sub .i64 (add .i64 n14 n15) n16)), (.int .i64 n17), (.int .i64 (or .i64 n19 (shl .i64 1 (sub .i64 (add .i64 n14 n15) n16)))), (.int .i64 (add .i64 n20 1))] h4)))))) (
            ld Try.prog h4 3 (nx h2) (off 0 2) fun v12 =>
            asI .i64 v12 fun n21 =>
            asI .i64 (gv ws0 2) fun n22 =>
            ifB (le n21 n22) (
              out .ret [(.bool false), gv ws0 1, gv ws0 2, gv ws0 3, gv ws0 4] h4) (
              ld Try.prog h4 3 (nx h2) 0 fun v13 =>
              asI .i64 v13 fun n23 =>
              ld Try.prog h4 3 (nx h2) (off 0 1) fun v14 =>
              asI .i64 v14 fun n24 =>
              asI .i64 (gv ws0 1) fun n25 =>
              ld Try.prog h4 3 (nx h2) (off 0 2) fun v15 =>
              asI .i64 v15 fun n26 =>
              asI .i64 (gv ws0 3) fun n27 =>
              nn (sub .i64 (add .i64 n23 n24) n25) (
                ifB (eq (and .i64 (shr .i64 n27 (sub .i64 (add .i64 n23 n24) n25)) 1) 1) (
                  out .ret [(.bool false), (.int .i64 (sub .i64 (add .i64 n23 n24) n25)), (.int .i64 n26), gv ws0 3, gv ws0 4] h4) (
                  nn (sub .i64 (add .i64 n23 n24) n25) (
                    asI .i64 (gv ws0 3) fun n28 =>
                    asI .i64 (gv ws0 4) fun n29 =>
                    out .normal [gv ws0 0, (.int .i64 (sub .i64 (add .i64 n23 n24) n25)), (.int .i64 n26), (.int .i64 (or .i64 n28 (shl .i64 1 (sub .i64 (add .i64 n23 n24) n25)))), (.int .i64 (add .i64 n29 1))] h4))))))))) (
    out (.exit 0) [gv ws0 0, gv ws0 1, gv ws0 2, gv ws0 3, gv ws0 4] h2)

noncomputable def f29 (rec : Rec) (k : Nat) (v0 : Value) (n0 : Int) (n1 : Int) (v1 : Value) (h0 : H) : Option (Value × H) :=
  bx h0 24 v0 fun h1 =>
  nn n0 (
    len v1 fun n2 =>
    lp k (f29_l1 rec k n1 v1 h0 n2) [(.bool false), (.int .i64 n0), (.int .i64 0), (.int .i64 (shl .i64 1 n0)), (.int .i64 0)] h1 fun e0 ws1 h5 =>
    onE e0 0 (
      asI .i64 (gv ws1 1) fun n30 =>
      ifB (eq n30 n1) (
        len v1 fun n31 =>
        some ((.bool (lt 0 n31)), h5)) (
        some ((.bool false), h5))) (
      onR e0 (
        some (gv ws1 0, h5))))

theorem e29 (rec : Rec) (k : Nat) (v0 : Value) (n0 : Int) (n1 : Int) (v1 : Value) (h : H) : bodyT Try.prog E0 SC (XC Try.prog rec k) 29 (Value × H) [.opq v0, .int .i64 n0, .int .i64 n1, .opq v1] h (fun v h => some (v, h)) = f29 rec k v0 n0 n1 v1 h := by kernel_rfl

theorem t29 {k : Nat} {v0 : Value} {n0 : Int} {n1 : Int} {v1 : Value} {h h1 : H} {v : Value} (hh : f29 rn k v0 n0 n1 v1 h = some (v, h1)) : rn 29 #[v0, .int .i64 n0, .int .i64 n1, v1] h = some (v, trunc Try.prog h h1 v) :=
  run_of_bodyT (args := [.opq v0, .int .i64 n0, .int .i64 n1, .opq v1]) rfl ((e29 _ _ _ _ _ _ _).trans hh)

theorem x29 {k : Nat} {v0 : Value} {n0 : Int} {n1 : Int} {v1 : Value} {h h1 : H} {v : Value} (hh : f29 rn k v0 n0 n1 v1 h = some (v, h1)) (hp : plainO v = false) : rn 29 #[v0, .int .i64 n0, .int .i64 n1, v1] h = some (v, h1) := by rw [t29 hh, trunc_not hp]

noncomputable def f34 (_rec : Rec) (_k : Nat) (n0 : Int) (h0 : H) : Option (Value × H) :=
  ifB (lt n0 4) (
    nz 2 (
      some ((.int .i64 (quo .i64 (mul .i64 n0 (sub .i64 n0 1)) 2)), h0))) (
    some ((.int .i64 (sub .i64 (mul .i64 2 n0) 4)), h0))

theorem e34 (rec : Rec) (k : Nat) (n0 : Int) (h : H) : bodyT Try.prog E0 SC (XC Try.prog rec k) 34 (Value × H) [.int .i64 n0] h (fun v h => some (v, h)) = f34 rec k n0 h := by kernel_rfl

theorem t34 {k : Nat} {n0 : Int} {h h1 : H} {v : Value} (hh : f34 rn k n0 h = some (v, h1)) : rn 34 #[.int .i64 n0] h = some (v, trunc Try.prog h h1 v) :=
  run_of_bodyT (args := [.int .i64 n0]) rfl ((e34 _ _ _ _).trans hh)

theorem p34 {k : Nat} {n0 : Int} {h h1 : H} {v : Value} (hh : f34 rn k n0 h = some (v, h1)) (hp : plainO v = true) (x : Ext h h1) : rn 34 #[.int .i64 n0] h = some (v, h) := by rw [t34 hh, trunc_pure hp x]

noncomputable def f35_l2 (_rec : Rec) (_k : Nat) (h2 : H) (v17 : Value) (n16 : Int) (ws1 : List Value) (h5 : H) : Option (Ex × List Value × H) :=
  asI .i64 (gv ws1 1) fun n17 =>
  ifB (lt n17 n16) (
    asK (gv ws1 1) fun n18 =>
    six v17 n18 3 fun b2 b3 =>
    ld Try.prog h5 59 b2 b3 fun v18 =>
    al h5 59 [(.int .i64 0), (.int .i64 0), (.int .i64 0)] fun h6 =>
    st Try.prog h6 59 (nx h5) 0 v18 fun h7 =>
    ld Try.prog h7 3 (nx h5) (off 0 2) fun v19 =>
    asI .i64 v19 fun n19 =>
    ld Try.prog h7 3 (nx h2) (off 0 2) fun v20 =>
    asI .i64 v20 fun n20 =>
    ifB (lt n20 n19) (
      out .ret [(.bool false), gv ws1 1] h7) (
      ld Try.prog h7 3 (nx h5) (off 0 2) fun v21 =>
      asI .i64 v21 fun n21 =>
      ld Try.prog h7 3 (nx h2) (off 0 2) fun v22 =>
      asI .i64 v22 fun n22 =>
      ifB (eq n21 n22) (
        ld Try.prog h7 3 (nx h5) 0 fun v23 =>
        asI .i64 v23 fun n23 =>
        ld Try.prog h7 3 (nx h2) 0 fun v24 =>
        asI .i64 v24 fun n24 =>
        ifB (eq n23 n24) (
          out .ret [(.bool false), gv ws1 1] h7) (
          ld Try.prog h7 3 (nx h5) 0 fun v25 =>
          asI .i64 v25 fun n25 =>
          ld Try.prog h7 3 (nx h2) (off 0 1) fun v26 =>
          asI .i64 v26 fun n26 =>
          ifB (eq n25 n26) (
            out .ret [(.bool false), gv ws1 1] h7) (
            ld Try.prog h7 3 (nx h5) (off 0 1) fun v27 =>
            asI .i64 v27 fun n27 =>
            ld Try.prog h7 3 (nx h2) 0 fun v28 =>
            asI .i64 v28 fun n28 =>
            ifB (eq n27 n28) (
              out .ret [(.bool false), gv ws1 1] h7) (
              ld Try.prog h7 3 (nx h5) (off 0 1) fun v29 =>
              asI .i64 v29 fun n29 =>
              ld Try.prog h7 3 (nx h2) (off 0 1) fun v30 =>
              asI .i64 v30 fun n30 =>
              ifB (eq n29 n30) (
                out .ret [(.bool false), gv ws1 1] h7) (
                asI .i64 (gv ws1 1) fun n31 =>
                out .normal [gv ws1 0, (.int .i64 (add .i64 n31 1))] h7))))) (
        asI .i64 (gv ws1 1) fun n32 =>
        out .normal [gv ws1 0, (.int .i64 (add .i64 n32 1))] h7))) (
    out (.exit 2) [gv ws1 0, gv ws1 1] h5)

noncomputable def f35_l1 (rec : Rec) (k : Nat) (h0 : H) (v4 : Value) (n3 : Int) (ws0 : List Value) (h2 : H) : Option (Ex × List Value × H) :=
  asI .i64 (gv ws0 1) fun n4 =>
  ifB (lt n4 n3) (
    asK (gv ws0 1) fun n5 =>
    six v4 n5 3 fun b0 b1 =>
    ld Try.prog h2 59 b0 b1 fun v5 =>
    al h2 59 [(.int .i64 0), (.int .i64 0), (.int .i64 0)] fun h3 =>
    st Try.prog h3 59 (nx h2) 0 v5 fun h4 =>
    ld Try.prog h4 3 (nx h2) 0 fun v6 =>
    asI .i64 v6 fun n6 =>
    ifB (lt n6 0) (
      out .ret [(.bool false), gv ws0 1] h4) (
      ld Try.prog h4 3 (nx h2) 0 fun v7 =>
      asI .i64 v7 fun n7 =>
      ld Try.prog h4 3 (nx h0) 0 fun v8 =>
      asI .i64 v8 fun n8 =>
      ifB (le n8 n7) (
        out .ret [(.bool false), gv ws0 1] h4) (
        ld Try.prog h4 3 (nx h2) (off 0 1) fun v9 =>
        asI .i64 v9 fun n9 =>
        ifB (lt n9 0) (
          out .ret [(.bool false), gv ws0 1] h4) (
          ld Try.prog h4 3 (nx h2) (off 0 1) fun v10 =>
          asI .i64 v10 fun n10 =>
          ld Try.prog h4 3 (nx h0) 0 fun v11 =>
          asI .i64 v11 fun n11 =>
          ifB (le n11 n10) (
            out .ret [(.bool false), gv ws0 1] h4) (
            ld Try.prog h4 3 (nx h2) 0 fun v12 =>
            asI .i64 v12 fun n12 =>
            ld Try.prog h4 3 (nx h2) (off 0 1) fun v13 =>
            asI .i64 v13 fun n13 =>
            ifB (eq n12 n13) (
              out .ret [(.bool false), gv ws0 1] h4) (
              ld Try.prog h4 3 (nx h2) (off 0 2) fun v14 =>
              asI .i64 v14 fun n14 =>
              ifB (lt n14 1) (
                out .ret [(.bool false), gv ws0 1] h4) (
                ld Try.prog h4 3 (nx h2) (off 0 2) fun v15 =>
                asI .i64 v15 fun n15 =>
                ifB (lt 30 n15) (
                  out .ret [(.bool false), gv ws0 1] h4) (
                  ld Try.prog h4 22 (nx h0) (off 0 1) fun v16 =>
                  sli Try.prog h4 22 v16 none (some (gv ws0 1)) none fun v17 =>
                  len v17 fun n16 =>
                  lp k (f35_l2 rec k h2 v17 n16) [gv ws0 0, (.int .i64 0)] h4 fun e0 ws2 h8 =>
                  onE e0 2 (
                    asI .i64 (gv ws0 1) fun n33 =>
                    out .normal [gv ws2 0, (.int .i64 (add .i64 n33 1))] h8) (
                    onR e0 (
                      out .ret [gv ws2 0, gv ws0 1] h8)))))))))) (
    out (.exit 0) [gv ws0 0, gv ws0 1] h2)

noncomputable def f35 (rec : Rec) (k : Nat) (v0 : Value) (h0 : H) : Option (Value × H) :=
  bx h0 24 v0 fun h1 =>
  ld Try.prog h1 3 (nx h0) 0 fun v1 =>
  asI .i64 v1 fun n0 =>
  ifB (lt n0 1) (
    some ((.bool false), h1)) (
    ld Try.prog h1 3 (nx h0) 0 fun v2 =>
    asI .i64 v2 fun n1 =>
    ifB (lt 7 n1) (
      some ((.bool false), h1)) (
      ld Try.prog h1 22 (nx h0) (off 0 1) fun v3 =>
      len v3 fun n2 =>
      ifB (lt 24 n2) (
        some ((.bool false), h1)) (
        ld Try.prog h1 22 (nx h0) (off 0 1) fun v4 =>
        len v4 fun n3 =>
        lp k (f35_l1 rec k h0 v4 n3) [(.bool false), (.int .i64 0)] h1 fun e1 ws3 h9 =>
        onE e1 0 (
          some ((.bool true), h9)) (
          onR e1 (
            some (gv ws3 0, h9))))))

theorem e35 (rec : Rec) (k : Nat) (v0 : Value) (h : H) : bodyT Try.prog E0 SC (XC Try.prog rec k) 35 (Value × H) [.opq v0] h (fun v h => some (v, h)) = f35 rec k v0 h := by kernel_rfl

theorem t35 {k : Nat} {v0 : Value} {h h1 : H} {v : Value} (hh : f35 rn k v0 h = some (v, h1)) : rn 35 #[v0] h = some (v, trunc Try.prog h h1 v) :=
  run_of_bodyT (args := [.opq v0]) rfl ((e35 _ _ _ _).trans hh)

theorem p35 {k : Nat} {v0 : Value} {h h1 : H} {v : Value} (hh : f35 rn k v0 h = some (v, h1)) (hp : plainO v = true) (x : Ext h h1) : rn 35 #[v0] h = some (v, h) := by rw [t35 hh, trunc_pure hp x]

theorem x35 {k : Nat} {v0 : Value} {h h1 : H} {v : Value} (hh : f35 rn k v0 h = some (v, h1)) (hp : plainO v = false) : rn 35 #[v0] h = some (v, h1) := by rw [t35 hh, trunc_not hp]

noncomputable def f36_l1 (_rec : Rec) (_k : Nat) (h0 : H) (v2 : Value) (n0 : Int) (ws0 : List Value) (h3 : H) : Option (Ex × List Value × H) :=
  asI .i64 (gv ws0 1) fun n1 =>
  ifB (lt n1 n0) (
    asK (gv ws0 1) fun n2 =>
    six v2 n2 1 fun b0 b1 =>
    ld Try.prog h3 3 b0 b1 fun v3 =>
    asI .i64 v3 fun n3 =>
    ld Try.prog h3 3 (nx h0) 0 fun v4 =>
    asI .i64 v4 fun n4 =>
    nn n4 (
      ifB (not (eq n3 (sub .i64 (shl .i64 1 n4) 1))) (
        out .ret [(.bool false), gv ws0 1] h3) (
        asI .i64 (gv ws0 1) fun n5 =>
        out .normal [gv ws0 0, (.int .i64 (add .i64 n5 1))] h3))) (
    out (.exit 0) [gv ws0 0, gv ws0 1] h3)

noncomputable def f36 (rec : Rec) (k : Nat) (v0 : Value) (h0 : H) : Option (Value × H) :=
  bx h0 24 v0 fun h1 =>
  ld Try.prog h1 24 (nx h0) 0 fun v1 =>
  calls rec h1 40 [v1] fun v2 h2 =>
  len v2 fun n0 =>
  lp k (f36_l1 rec k h0 v2 n0) [(.bool false), (.int .i64 0)] h2 fun e0 ws1 h4 =>
  onE e0 0 (
    some ((.bool true), h4)) (
    onR e0 (
      some (gv ws1 0, h4)))

theorem e36 (rec : Rec) (k : Nat) (v0 : Value) (h : H) : bodyT Try.prog E0 SC (XC Try.prog rec k) 36 (Value × H) [.opq v0] h (fun v h => some (v, h)) = f36 rec k v0 h := by kernel_rfl

theorem t36 {k : Nat} {v0 : Value} {h h1 : H} {v : Value} (hh : f36 rn k v0 h = some (v, h1)) : rn 36 #[v0] h = some (v, trunc Try.prog h h1 v) :=
  run_of_bodyT (args := [.opq v0]) rfl ((e36 _ _ _ _).trans hh)

theorem p36 {k : Nat} {v0 : Value} {h h1 : H} {v : Value} (hh : f36 rn k v0 h = some (v, h1)) (hp : plainO v = true) (x : Ext h h1) : rn 36 #[v0] h = some (v, h) := by rw [t36 hh, trunc_pure hp x]

noncomputable def f37_l1 (rec : Rec) (_k : Nat) (v4 : Value) (v5 : Value) (n0 : Int) (ws0 : List Value) (h4 : H) : Option (Ex × List Value × H) :=
  asI .i64 (gv ws0 0) fun n1 =>
  ifB (lt n1 n0) (
    asK (gv ws0 0) fun n2 =>
    six v5 n2 3 fun b0 b1 =>
    ld Try.prog h4 56 b0 b1 fun v6 =>
    al h4 56 [(.int .i64 0), (.int .i64 0), (.int .i64 0)] fun h5 =>
    st Try.prog h5 56 (nx h4) 0 v6 fun h6 =>
    ld Try.prog h6 56 (nx h4) 0 fun v7 =>
    calls rec h6 78 [v4, v7] fun v8 h7 =>
    asB v8 fun _ =>
    asI .i64 (gv ws0 0) fun n3 =>
    out .normal [(.int .i64 (add .i64 n3 1))] h7) (
    out (.exit 0) [gv ws0 0] h4)

noncomputable def f37 (rec : Rec) (k : Nat) (v0 : Value) (h0 : H) : Option (Value × H) :=
  bx h0 31 v0 fun h1 =>
  ld Try.prog h1 31 (nx h0) 0 fun v1 =>
  calls rec h1 71 [v1] fun v2 h2 =>
  asB v2 fun q0 =>
  ifB (not q0) (
    some ((.tuple #[(.slice none 0 0), (.int .i64 2)]), h2)) (
    ld Try.prog h2 31 (nx h0) 0 fun v3 =>
    calls rec h2 77 [v3] fun v4 h3 =>
    ld Try.prog h3 29 (nx h0) (off 0 1) fun v5 =>
    len v5 fun n0 =>
    lp k (f37_l1 rec k v4 v5 n0) [(.int .i64 0)] h3 fun e0 _ h8 =>
    onE e0 0 (
      some ((.tuple #[v4, (.int .i64 0)]), h8)) (
      none))

theorem e37 (rec : Rec) (k : Nat) (v0 : Value) (h : H) : bodyT Try.prog E0 SC (XC Try.prog rec k) 37 (Value × H) [.opq v0] h (fun v h => some (v, h)) = f37 rec k v0 h := by kernel_rfl

theorem t37 {k : Nat} {v0 : Value} {h h1 : H} {v : Value} (hh : f37 rn k v0 h = some (v, h1)) : rn 37 #[v0] h = some (v, trunc Try.prog h h1 v) :=
  run_of_bodyT (args := [.opq v0]) rfl ((e37 _ _ _ _).trans hh)

theorem x37 {k : Nat} {v0 : Value} {h h1 : H} {v : Value} (hh : f37 rn k v0 h = some (v, h1)) (hp : plainO v = false) : rn 37 #[v0] h = some (v, h1) := by rw [t37 hh, trunc_not hp]

noncomputable def f38_l1 (_rec : Rec) (_k : Nat) (h0 : H) (v6 : Value) (n1 : Int) (ws0 : List Value) (h5 : H) : Option (Ex × List Value × H) :=
  asI .i64 (gv ws0 2) fun n2 =>
  ifB (lt n2 n1) (
    asK (gv ws0 2) fun n3 =>
    six v6 n3 3 fun b0 b1 =>
    ld Try.prog h5 56 b0 b1 fun v7 =>
    al h5 56 [(.int .i64 0), (.int .i64 0), (.int .i64 0)] fun h6 =>
    st Try.prog h6 56 (nx h5) 0 v7 fun h7 =>
    ld Try.prog h7 3 (nx h5) 0 fun v8 =>
    asI .i64 v8 fun n4 =>
    asI .i64 (gv ws0 0) fun n5 =>
    nn n4 (
      ifB (eq (and .i64 (shr .i64 n5 n4) 1) 1) (
        ld Try.prog h7 3 (nx h5) 0 fun v9 =>
        asI .i64 v9 fun n6 =>
        nn n6 (
          ld Try.prog h7 3 (nx h5) (off 0 1) fun v10 =>
          asI .i64 v10 fun n7 =>
          nn n7 (
            asI .i64 (gv ws0 0) fun n8 =>
            asI .i64 (gv ws0 2) fun n9 =>
            ld Try.prog h7 29 (nx h0) (off 0 1) fun v11 =>
            len v11 fun n10 =>
            ifB (eq (add .i64 n9 1) n10) (
              bls Try.prog h7 25 1 [(0, (.int .i64 (or .i64 n8 (or .i64 (shl .i64 1 n6) (shl .i64 1 n7)))))] fun v12 h8 =>
              app Try.prog h8 25 25 (gv ws0 1) v12 fun v13 h9 =>
              asI .i64 (gv ws0 2) fun n11 =>
              out .normal [(.int .i64 (or .i64 n8 (or .i64 (shl .i64 1 n6) (shl .i64 1 n7)))), v13, (.int .i64 (add .i64 n11 1))] h9) (
              ld Try.prog h7 29 (nx h0) (off 0 1) fun v14 =>
              asI .i64 (gv ws0 2) fun n12 =>
              six v14 (add .i64 n12 1) 3 fun b2 b3 =>
              ld Try.prog h7 3 b2 (off b3 2) fun v15 =>
              asI .i64 v15 fun n13 =>
              ld Try.prog h7 3 (nx h5) (off 0 2) fun v16 =>
              asI .i64 v16 fun n14 =>
              ifB (lt n14 n13) (
                bls Try.prog h7 25 1 [(0, (.int .i64 (or .i64 n8 (or .i64 (shl .i64 1 n6) (shl .i64 1 n7)))))] fun v17 h10 =>
                app Try.prog h10 25 25 (gv ws0 1) v17 fun v18 h11 =>
                asI .i64 (gv ws0 2) fun n15 =>
                out .normal [(.int .i64 (or .i64 n8 (or .i64 (shl .i64 1 n6) (shl .i64 1 n7)))), v18, (.int .i64 (add .i64 n15 1))] h11) (
                asI .i64 (gv ws0 2) fun n16 =>
                out .normal [(.int .i64 (or .i64 n8 (or .i64 (shl .i64 1 n6) (shl .i64 1 n7)))), gv ws0 1, (.int .i64 (add .i64 n16 1))] h7))))) (
        ld Try.prog h7 3 (nx h5) (off 0 1) fun v19 =>
        asI .i64 v19 fun n17 =>
        asI .i64 (gv ws0 0) fun n18 =>
        nn n17 (
          ifB (eq (and .i64 (shr .i64 n18 n17) 1) 1) (
            ld Try.prog h7 3 (nx h5) 0 fun v20 =>
            asI .i64 v20 fun n19 =>
            nn n19 (
              ld Try.prog h7 3 (nx h5) (off 0 1) fun v21 =>
              asI .i64 v21 fun n20 =>
              nn n20 (
                asI .i64 (gv ws0 0) fun n21 =>
                asI .i64 (gv ws0 2) fun n22 =>
                ld Try.prog h7 29 (nx h0) (off 0 1) fun v22 =>
                len v22 fun n23 =>
                ifB (eq (add .i64 n22 1) n23) (
                  bls Try.prog h7 25 1 [(0, (.int .i64 (or .i64 n21 (or .i64 (shl .i64 1 n19) (shl .i64 1 n20)))))] fun v23 h12 =>
                  app Try.prog h12 25 25 (gv ws0 1) v23 fun v24 h13 =>
                  asI .i64 (gv ws0 2) fun n24 =>
                  out .normal [(.int .i64 (or .i64 n21 (or .i64 (shl .i64 1 n19) (shl .i64 1 n20)))), v24, (.int .i64 (add .i64 n24 1))] h13) (
                  ld Try.prog h7 29 (nx h0) (off 0 1) fun v25 =>
                  asI .i64 (gv ws0 2) fun n25 =>
                  six v25 (add .i64 n25 1) 3 fun b4 b5 =>
                  ld Try.prog h7 3 b4 (off b5 2) fun v26 =>
                  asI .i64 v26 fun n26 =>
                  ld Try.prog h7 3 (nx h5) (off 0 2) fun v27 =>
                  asI .i64 v27 fun n27 =>
                  ifB (lt n27 n26) (
                    bls Try.prog h7 25 1 [(0, (.int .i64 (or .i64 n21 (or .i64 (shl .i64 1 n19) (shl .i64 1 n20)))))] fun v28 h14 =>
                    app Try.prog h14 25 25 (gv ws0 1) v28 fun v29 h15 =>
                    asI .i64 (gv ws0 2) fun n28 =>
                    out .normal [(.int .i64 (or .i64 n21 (or .i64 (shl .i64 1 n19) (shl .i64 1 n20)))), v29, (.int .i64 (add .i64 n28 1))] h15) (
                    asI .i64 (gv ws0 2) fun n29 =>
                    out .normal [(.int .i64 (or .i64 n21 (or .i64 (shl .i64 1 n19) (shl .i64 1 n20)))), gv ws0 1, (.int .i64 (add .i64 n29 1))] h7))))) (
            asI .i64 (gv ws0 2) fun n30 =>
            ld Try.prog h7 29 (nx h0) (off 0 1) fun v30 =>
            len v30 fun n31 =>
            ifB (eq (add .i64 n30 1) n31) (
              bls Try.prog h7 25 1 [(0, gv ws0 0)] fun v31 h16 =>
              app Try.prog h16 25 25 (gv ws0 1) v31 fun v32 h17 =>
              asI .i64 (gv ws0 2) fun n32 =>
              out .normal [gv ws0 0, v32, (.int .i64 (add .i64 n32 1))] h17) (
              ld Try.prog h7 29 (nx h0) (off 0 1) fun v33 =>
              asI .i64 (gv ws0 2) fun n33 =>
              six v33 (add .i64 n33 1) 3 fun b6 b7 =>
              ld Try.prog h7 3 b6 (off b7 2) fun v34 =>
              asI .i64 v34 fun n34 =>
              ld Try.prog h7 3 (nx h5) (off 0 2) fun v35 =>
              asI .i64 v35 fun n35 =>
              ifB (lt n35 n34) (
                bls Try.prog h7 25 1 [(0, gv ws0 0)] fun v36 h18 =>
                app Try.prog h18 25 25 (gv ws0 1) v36 fun v37 h19 =>
                asI .i64 (gv ws0 2) fun n36 =>
                out .normal [gv ws0 0, v37, (.int .i64 (add .i64 n36 1))] h19) (
                asI .i64 (gv ws0 2) fun n37 =>
                out .normal [gv ws0 0, gv ws0 1, (.int .i64 (add .i64 n37 1))] h7))))))) (
    out (.exit 0) [gv ws0 0, gv ws0 1, gv ws0 2] h5)

noncomputable def f38 (rec : Rec) (k : Nat) (v0 : Value) (n0 : Int) (h0 : H) : Option (Value × H) :=
  bx h0 31 v0 fun h1 =>
  ld Try.prog h1 31 (nx h0) 0 fun v1 =>
  calls rec h1 71 [v1] fun v2 h2 =>
  asB v2 fun q0 =>
  ifB (not q0) (
    some ((.tuple #[(.slice none 0 0), (.int .i64 2)]), h2)) (
    ld Try.prog h2 31 (nx h0) 0 fun v3 =>
    calls rec h2 72 [v3, (.int .i64 n0)] fun v4 h3 =>
    asB v4 fun q1 =>
    ifB (not q1) (
      some ((.tuple #[(.slice none 0 0), (.int .i64 2)]), h3)) (
      nn n0 (
        bls Try.prog h3 25 1 [(0, (.int .i64 (shl .i64 1 n0)))] fun v5 h4 =>
        ld Try.prog h4 29 (nx h0) (off 0 1) fun v6 =>
        len v6 fun n1 =>
        lp k (f38_l1 rec k h0 v6 n1) [(.int .i64 (shl .i64 1 n0)), v5, (.int .i64 0)] h4 fun e0 ws1 h20 =>
        onE e0 0 (
          some ((.tuple #[gv ws1 1, (.int .i64 0)]), h20)) (
          none))))

theorem e38 (rec : Rec) (k : Nat) (v0 : Value) (n0 : Int) (h : H) : bodyT Try.prog E0 SC (XC Try.prog rec k) 38 (Value × H) [.opq v0, .int .i64 n0] h (fun v h => some (v, h)) = f38 rec k v0 n0 h := by kernel_rfl

theorem t38 {k : Nat} {v0 : Value} {n0 : Int} {h h1 : H} {v : Value} (hh : f38 rn k v0 n0 h = some (v, h1)) : rn 38 #[v0, .int .i64 n0] h = some (v, trunc Try.prog h h1 v) :=
  run_of_bodyT (args := [.opq v0, .int .i64 n0]) rfl ((e38 _ _ _ _ _).trans hh)

theorem x38 {k : Nat} {v0 : Value} {n0 : Int} {h h1 : H} {v : Value} (hh : f38 rn k v0 n0 h = some (v, h1)) (hp : plainO v = false) : rn 38 #[v0, .int .i64 n0] h = some (v, h1) := by rw [t38 hh, trunc_not hp]

noncomputable def f39_l1 (rec : Rec) (_k : Nat) (v4 : Value) (v5 : Value) (n0 : Int) (ws0 : List Value) (h4 : H) : Option (Ex × List Value × H) :=
  asI .i64 (gv ws0 1) fun n1 =>
  ifB (lt n1 n0) (
    asK (gv ws0 1) fun n2 =>
    six v5 n2 3 fun b0 b1 =>
    ld Try.prog h4 56 b0 b1 fun v6 =>
    al h4 56 [(.int .i64 0), (.int .i64 0), (.int .i64 0)] fun h5 =>
    st Try.prog h5 56 (nx h4) 0 v6 fun h6 =>
    ld Try.prog h6 56 (nx h4) 0 fun v7 =>
    calls rec h6 78 [v4, v7] fun v8 h7 =>
    asB v8 fun q1 =>
    ifB (not q1) (
      bls Try.prog h7 25 1 [(0, gv ws0 1)] fun v9 h8 =>
      app Try.prog h8 25 25 (gv ws0 0) v9 fun v10 h9 =>
      asI .i64 (gv ws0 1) fun n3 =>
      out .normal [v10, (.int .i64 (add .i64 n3 1))] h9) (
      asI .i64 (gv ws0 1) fun n4 =>
      out .normal [gv ws0 0, (.int .i64 (add .i64 n4 1))] h7)) (
    out (.exit 0) [gv ws0 0, gv ws0 1] h4)

noncomputable def f39 (rec : Rec) (k : Nat) (v0 : Value) (h0 : H) : Option (Value × H) :=
  bx h0 31 v0 fun h1 =>
  ld Try.prog h1 31 (nx h0) 0 fun v1 =>
  calls rec h1 71 [v1] fun v2 h2 =>
  asB v2 fun q0 =>
  ifB (not q0) (
    some ((.tuple #[(.slice none 0 0), (.int .i64 2)]), h2)) (
    ld Try.prog h2 31 (nx h0) 0 fun v3 =>
    calls rec h2 77 [v3] fun v4 h3 =>
    ld Try.prog h3 29 (nx h0) (off 0 1) fun v5 =>
    len v5 fun n0 =>
    lp k (f39_l1 rec k v4 v5 n0) [(.slice none 0 0), (.int .i64 0)] h3 fun e0 ws1 h10 =>
    onE e0 0 (
      some ((.tuple #[gv ws1 0, (.int .i64 0)]), h10)) (
      none))

theorem e39 (rec : Rec) (k : Nat) (v0 : Value) (h : H) : bodyT Try.prog E0 SC (XC Try.prog rec k) 39 (Value × H) [.opq v0] h (fun v h => some (v, h)) = f39 rec k v0 h := by kernel_rfl

theorem t39 {k : Nat} {v0 : Value} {h h1 : H} {v : Value} (hh : f39 rn k v0 h = some (v, h1)) : rn 39 #[v0] h = some (v, trunc Try.prog h h1 v) :=
  run_of_bodyT (args := [.opq v0]) rfl ((e39 _ _ _ _).trans hh)

theorem x39 {k : Nat} {v0 : Value} {h h1 : H} {v : Value} (hh : f39 rn k v0 h = some (v, h1)) (hp : plainO v = false) : rn 39 #[v0] h = some (v, h1) := by rw [t39 hh, trunc_not hp]

noncomputable def f40 (rec : Rec) (_k : Nat) (v0 : Value) (h0 : H) : Option (Value × H) :=
  bx h0 24 v0 fun h1 =>
  ld Try.prog h1 24 (nx h0) 0 fun v1 =>
  calls rec h1 79 [v1] fun v2 h2 =>
  len v2 fun n0 =>
  six v2 (sub .i64 n0 1) 1 fun b0 b1 =>
  ld Try.prog h2 25 b0 b1 fun v3 =>
  some (v3, h2)

theorem e40 (rec : Rec) (k : Nat) (v0 : Value) (h : H) : bodyT Try.prog E0 SC (XC Try.prog rec k) 40 (Value × H) [.opq v0] h (fun v h => some (v, h)) = f40 rec k v0 h := by kernel_rfl

theorem t40 {k : Nat} {v0 : Value} {h h1 : H} {v : Value} (hh : f40 rn k v0 h = some (v, h1)) : rn 40 #[v0] h = some (v, trunc Try.prog h h1 v) :=
  run_of_bodyT (args := [.opq v0]) rfl ((e40 _ _ _ _).trans hh)

theorem x40 {k : Nat} {v0 : Value} {h h1 : H} {v : Value} (hh : f40 rn k v0 h = some (v, h1)) (hp : plainO v = false) : rn 40 #[v0] h = some (v, h1) := by rw [t40 hh, trunc_not hp]

noncomputable def f41_l1 (_rec : Rec) (_k : Nat) (v2 : Value) (n1 : Int) (ws0 : List Value) (h3 : H) : Option (Ex × List Value × H) :=
  asI .i64 (gv ws0 0) fun n2 =>
  ifB (lt n2 n1) (
    asK (gv ws0 0) fun n3 =>
    nn n3 (
      asK (gv ws0 0) fun n4 =>
      six v2 n4 1 fun b0 b1 =>
      st Try.prog h3 3 b0 b1 (.int .i64 (shl .i64 1 n3)) fun h4 =>
      asI .i64 (gv ws0 0) fun n5 =>
      out .normal [(.int .i64 (add .i64 n5 1))] h4)) (
    out (.exit 0) [gv ws0 0] h3)

noncomputable def f41_l2 (_rec : Rec) (_k : Nat) (v2 : Value) (v3 : Value) (n6 : Int) (ws2 : List Value) (h6 : H) : Option (Ex × List Value × H) :=
  asI .i64 (gv ws2 1) fun n7 =>
  ifB (lt n7 n6) (
    asK (gv ws2 1) fun n8 =>
    six v3 n8 3 fun b2 b3 =>
    ld Try.prog h6 59 b2 b3 fun v4 =>
    al h6 59 [(.int .i64 0), (.int .i64 0), (.int .i64 0)] fun h7 =>
    st Try.prog h7 59 (nx h6) 0 v4 fun h8 =>
    ld Try.prog h8 3 (nx h6) 0 fun v5 =>
    asI .i64 v5 fun n9 =>
    six v2 n9 1 fun b4 b5 =>
    ld Try.prog h8 3 b4 b5 fun v6 =>
    asI .i64 v6 fun n10 =>
    ld Try.prog h8 3 (nx h6) (off 0 1) fun v7 =>
    asI .i64 v7 fun n11 =>
    six v2 n11 1 fun b6 b7 =>
    ld Try.prog h8 3 b6 b7 fun v8 =>
    asI .i64 v8 fun n12 =>
    ld Try.prog h8 3 (nx h6) 0 fun v9 =>
    asI .i64 v9 fun n13 =>
    six v2 n13 1 fun b8 b9 =>
    ld Try.prog h8 3 b8 b9 fun v10 =>
    asI .i64 v10 fun n14 =>
    ifB (eq n14 (or .i64 n10 n12)) (
      ld Try.prog h8 3 (nx h6) (off 0 1) fun v11 =>
      asI .i64 v11 fun n15 =>
      six v2 n15 1 fun b10 b11 =>
      ld Try.prog h8 3 b10 b11 fun v12 =>
      asI .i64 v12 fun n16 =>
      ifB (eq n16 (or .i64 n10 n12)) (
        bls Try.prog h8 25 1 [(0, gv ws2 1)] fun v13 h9 =>
        app Try.prog h9 25 25 (gv ws2 0) v13 fun v14 h10 =>
        ld Try.prog h10 3 (nx h6) 0 fun v15 =>
        asI .i64 v15 fun n17 =>
        ld Try.prog h10 3 (nx h6) (off 0 1) fun v16 =>
        asI .i64 v16 fun n18 =>
        six v2 n17 1 fun b12 b13 =>
        st Try.prog h10 3 b12 b13 (.int .i64 (or .i64 n10 n12)) fun h11 =>
        ck (fre (nx h6) (nx h10) (off 0 1) 1 b12 b13 1) (
          six v2 n18 1 fun b14 b15 =>
          st Try.prog h11 3 b14 b15 (.int .i64 (or .i64 n10 n12)) fun h12 =>
          asI .i64 (gv ws2 1) fun n19 =>
          out .normal [v14, (.int .i64 (add .i64 n19 1))] h12)) (
        ld Try.prog h8 3 (nx h6) 0 fun v17 =>
        asI .i64 v17 fun n20 =>
        ld Try.prog h8 3 (nx h6) (off 0 1) fun v18 =>
        asI .i64 v18 fun n21 =>
        six v2 n20 1 fun b16 b17 =>
        st Try.prog h8 3 b16 b17 (.int .i64 (or .i64 n10 n12)) fun h13 =>
        ck (fre (nx h6) (nx h8) (off 0 1) 1 b16 b17 1) (
          six v2 n21 1 fun b18 b19 =>
          st Try.prog h13 3 b18 b19 (.int .i64 (or .i64 n10 n12)) fun h14 =>
          asI .i64 (gv ws2 1) fun n22 =>
          out .normal [gv ws2 0, (.int .i64 (add .i64 n22 1))] h14))) (
      ld Try.prog h8 3 (nx h6) 0 fun v19 =>
      asI .i64 v19 fun n23 =>
      ld Try.prog h8 3 (nx h6) (off 0 1) fun v20 =>
      asI .i64 v20 fun n24 =>
      six v2 n23 1 fun b20 b21 =>
      st Try.prog h8 3 b20 b21 (.int .i64 (or .i64 n10 n12)) fun h15 =>
      ck (fre (nx h6) (nx h8) (off 0 1) 1 b20 b21 1) (
        six v2 n24 1 fun b22 b23 =>
        st Try.prog h15 3 b22 b23 (.int .i64 (or .i64 n10 n12)) fun h16 =>
        asI .i64 (gv ws2 1) fun n25 =>
        out .normal [gv ws2 0, (.int .i64 (add .i64 n25 1))] h16))) (
    out (.exit 2) [gv ws2 0, gv ws2 1] h6)

noncomputable def f41 (rec : Rec) (k : Nat) (v0 : Value) (h0 : H) : Option (Value × H) :=
  bx h0 24 v0 fun h1 =>
  ld Try.prog h1 3 (nx h0) 0 fun v1 =>
  asI .i64 v1 fun n0 =>
  mks Try.prog h1 25 n0 n0 fun v2 h2 =>
  len v2 fun n1 =>
  lp k (f41_l1 rec k v2 n1) [(.int .i64 0)] h2 fun e0 _ h5 =>
  onE e0 0 (
    ld Try.prog h5 22 (nx h0) (off 0 1) fun v3 =>
    len v3 fun n6 =>
    lp k (f41_l2 rec k v2 v3 n6) [(.slice none 0 0), (.int .i64 0)] h5 fun e1 ws3 h17 =>
    onE e1 2 (
      some (gv ws3 0, h17)) (
      none)) (
    none)

theorem e41 (rec : Rec) (k : Nat) (v0 : Value) (h : H) : bodyT Try.prog E0 SC (XC Try.prog rec k) 41 (Value × H) [.opq v0] h (fun v h => some (v, h)) = f41 rec k v0 h := by kernel_rfl

theorem t41 {k : Nat} {v0 : Value} {h h1 : H} {v : Value} (hh : f41 rn k v0 h = some (v, h1)) : rn 41 #[v0] h = some (v, trunc Try.prog h h1 v) :=
  run_of_bodyT (args := [.opq v0]) rfl ((e41 _ _ _ _).trans hh)

theorem x41 {k : Nat} {v0 : Value} {h h1 : H} {v : Value} (hh : f41 rn k v0 h = some (v, h1)) (hp : plainO v = false) : rn 41 #[v0] h = some (v, h1) := by rw [t41 hh, trunc_not hp]

noncomputable def f42 (_rec : Rec) (_k : Nat) (v0 : Value) (n0 : Int) (h0 : H) : Option (Value × H) :=
  bx h0 24 v0 fun h1 =>
  ifB (le 0 n0) (
    ld Try.prog h1 3 (nx h0) 0 fun v1 =>
    asI .i64 v1 fun n1 =>
    some ((.bool (lt n0 n1)), h1)) (
    some ((.bool false), h1))

theorem e42 (rec : Rec) (k : Nat) (v0 : Value) (n0 : Int) (h : H) : bodyT Try.prog E0 SC (XC Try.prog rec k) 42 (Value × H) [.opq v0, .int .i64 n0] h (fun v h => some (v, h)) = f42 rec k v0 n0 h := by kernel_rfl

theorem t42 {k : Nat} {v0 : Value} {n0 : Int} {h h1 : H} {v : Value} (hh : f42 rn k v0 n0 h = some (v, h1)) : rn 42 #[v0, .int .i64 n0] h = some (v, trunc Try.prog h h1 v) :=
  run_of_bodyT (args := [.opq v0, .int .i64 n0]) rfl ((e42 _ _ _ _ _).trans hh)

theorem p42 {k : Nat} {v0 : Value} {n0 : Int} {h h1 : H} {v : Value} (hh : f42 rn k v0 n0 h = some (v, h1)) (hp : plainO v = true) (x : Ext h h1) : rn 42 #[v0, .int .i64 n0] h = some (v, h) := by rw [t42 hh, trunc_pure hp x]

noncomputable def f43_l2 (_rec : Rec) (_k : Nat) (n0 : Int) (v3 : Value) (n4 : Int) (ws1 : List Value) (h4 : H) : Option (Ex × List Value × H) :=
  asI .i64 (gv ws1 1) fun n5 =>
  ifB (lt n5 n4) (
    asK (gv ws1 1) fun n6 =>
    six v3 n6 1 fun b2 b3 =>
    ld Try.prog h4 3 b2 b3 fun v4 =>
    asI .i64 v4 fun n7 =>
    nn n0 (
      asK (gv ws1 1) fun n8 =>
      nn n8 (
        asI .i64 (gv ws1 0) fun n9 =>
        asI .i64 (gv ws1 1) fun n10 =>
        out .normal [(.int .i64 (or .i64 n9 (shl .i64 (and .i64 (shr .i64 n7 n0) 1) n8))), (.int .i64 (add .i64 n10 1))] h4))) (
    out (.exit 2) [gv ws1 0, gv ws1 1] h4)

noncomputable def f43_l1 (rec : Rec) (k : Nat) (n0 : Int) (v2 : Value) (n1 : Int) (ws0 : List Value) (h3 : H) : Option (Ex × List Value × H) :=
  asI .i64 (gv ws0 1) fun n2 =>
  ifB (lt n2 n1) (
    asK (gv ws0 1) fun n3 =>
    six v2 n3 1 fun b0 b1 =>
    ld Try.prog h3 25 b0 b1 fun v3 =>
    len v3 fun n4 =>
    lp k (f43_l2 rec k n0 v3 n4) [(.int .i64 0), (.int .i64 0)] h3 fun e0 ws2 h5 =>
    onE e0 2 (
      bls Try.prog h5 25 1 [(0, gv ws2 0)] fun v5 h6 =>
      app Try.prog h6 25 25 (gv ws0 0) v5 fun v6 h7 =>
      asI .i64 (gv ws0 1) fun n11 =>
      out .normal [v6, (.int .i64 (add .i64 n11 1))] h7) (
      none)) (
    out (.exit 0) [gv ws0 0, gv ws0 1] h3)

noncomputable def f43 (rec : Rec) (k : Nat) (v0 : Value) (n0 : Int) (h0 : H) : Option (Value × H) :=
  bx h0 24 v0 fun h1 =>
  ld Try.prog h1 24 (nx h0) 0 fun v1 =>
  calls rec h1 79 [v1] fun v2 h2 =>
  len v2 fun n1 =>
  lp k (f43_l1 rec k n0 v2 n1) [(.slice none 0 0), (.int .i64 0)] h2 fun e1 ws3 h8 =>
  onE e1 0 (
    some (gv ws3 0, h8)) (
    none)

theorem e43 (rec : Rec) (k : Nat) (v0 : Value) (n0 : Int) (h : H) : bodyT Try.prog E0 SC (XC Try.prog rec k) 43 (Value × H) [.opq v0, .int .i64 n0] h (fun v h => some (v, h)) = f43 rec k v0 n0 h := by kernel_rfl

theorem t43 {k : Nat} {v0 : Value} {n0 : Int} {h h1 : H} {v : Value} (hh : f43 rn k v0 n0 h = some (v, h1)) : rn 43 #[v0, .int .i64 n0] h = some (v, trunc Try.prog h h1 v) :=
  run_of_bodyT (args := [.opq v0, .int .i64 n0]) rfl ((e43 _ _ _ _ _).trans hh)

theorem x43 {k : Nat} {v0 : Value} {n0 : Int} {h h1 : H} {v : Value} (hh : f43 rn k v0 n0 h = some (v, h1)) (hp : plainO v = false) : rn 43 #[v0, .int .i64 n0] h = some (v, h1) := by rw [t43 hh, trunc_not hp]

end Go.AM

end

section

/- The staged forms of functions 5, 30, 31, 32, 33, 71, 72, 73, 74, 75, 76, 77, 78, 79, 89, 99, 100, 105, and what calls of these answer. -/
namespace Go.AM
open Go.Proofs
noncomputable def f5 (rec : Rec) (_k : Nat) (n0 : Int) (h0 : H) : Option (Value × H) :=
  calls rec h0 30 [(.int .i64 n0)] fun v0 h1 =>
  ext v0 0 fun v1 =>
  ext v0 1 fun v2 =>
  asI .i64 v2 fun n1 =>
  al h1 31 [(.int .i64 0), (.slice none 0 0)] fun h2 =>
  st Try.prog h2 31 (nx h1) 0 v1 fun h3 =>
  calls rec h3 31 [(.int .i64 n0)] fun v3 h4 =>
  ext v3 0 fun v4 =>
  asI .i64 v4 fun n2 =>
  ext v3 1 fun v5 =>
  asI .i64 v5 fun n3 =>
  ifB (lt n0 1) (
    ld Try.prog h4 31 (nx h1) 0 fun v6 =>
    calls rec h4 32 [v6] fun v7 h5 =>
    asB v7 fun q0 =>
    ifB q0 (
      ifB (eq n2 0) (
        ifB (eq n1 2) (
          ifB (eq n3 2) (
            calls rec h5 22 [] fun v8 h6 =>
            asB v8 fun q1 =>
            some ((.bool q1), h6)) (
            some ((.bool false), h5))) (
          some ((.bool false), h5))) (
        some ((.bool false), h5))) (
      some ((.bool false), h5))) (
    ifB (lt 7 n0) (
      ld Try.prog h4 31 (nx h1) 0 fun v9 =>
      calls rec h4 32 [v9] fun v10 h7 =>
      asB v10 fun q2 =>
      ifB q2 (
        ifB (eq n2 0) (
          ifB (eq n1 2) (
            ifB (eq n3 2) (
              calls rec h7 22 [] fun v11 h8 =>
              asB v11 fun q3 =>
              some ((.bool q3), h8)) (
              some ((.bool false), h7))) (
            some ((.bool false), h7))) (
          some ((.bool false), h7))) (
        some ((.bool false), h7))) (
      ld Try.prog h4 31 (nx h1) 0 fun v12 =>
      calls rec h4 33 [v12] fun v13 h9 =>
      al h9 24 [(.int .i64 0), (.slice none 0 0)] fun h10 =>
      st Try.prog h10 24 (nx h9) 0 v13 fun h11 =>
      ifB (eq n1 0) (
        ifB (eq n3 0) (
          calls rec h11 34 [(.int .i64 n0)] fun v14 h12 =>
          asI .i64 v14 fun n4 =>
          ifB (eq n2 n4) (
            ld Try.prog h12 24 (nx h9) 0 fun v15 =>
            calls rec h12 35 [v15] fun v16 h13 =>
            asB v16 fun q4 =>
            ifB q4 (
              ld Try.prog h13 3 (nx h9) 0 fun v17 =>
              asI .i64 v17 fun n5 =>
              ifB (eq n5 n0) (
                ld Try.prog h13 24 (nx h9) 0 fun v18 =>
                calls rec h13 36 [v18] fun v19 h14 =>
                asB v19 fun q5 =>
                ifB q5 (
                  ld Try.prog h14 22 (nx h9) (off 0 1) fun v20 =>
                  len v20 fun n6 =>
                  ifB (eq n6 n2) (
                    calls rec h14 22 [] fun v21 h15 =>
                    asB v21 fun q6 =>
                    some ((.bool q6), h15)) (
                    some ((.bool false), h14))) (
                  some ((.bool false), h14))) (
                some ((.bool false), h13))) (
              some ((.bool false), h13))) (
            some ((.bool false), h12))) (
          some ((.bool false), h11))) (
        some ((.bool false), h11))))

theorem e5 (rec : Rec) (k : Nat) (n0 : Int) (h : H) : bodyT Try.prog E0 SC (XC Try.prog rec k) 5 (Value × H) [.int .i64 n0] h (fun v h => some (v, h)) = f5 rec k n0 h := by kernel_rfl

theorem t5 {k : Nat} {n0 : Int} {h h1 : H} {v : Value} (hh : f5 rn k n0 h = some (v, h1)) : rn 5 #[.int .i64 n0] h = some (v, trunc Try.prog h h1 v) :=
  run_of_bodyT (args := [.int .i64 n0]) rfl ((e5 _ _ _ _).trans hh)

theorem x5 {k : Nat} {n0 : Int} {h h1 : H} {v : Value} (hh : f5 rn k n0 h = some (v, h1)) (hp : plainO v = false) : rn 5 #[.int .i64 n0] h = some (v, h1) := by rw [t5 hh, trunc_not hp]

noncomputable def f30 (rec : Rec) (_k : Nat) (n0 : Int) (h0 : H) : Option (Value × H) :=
  al h0 31 [(.int .i64 0), (.slice none 0 0)] fun h1 =>
  ifB (lt n0 1) (
    bld Try.prog 31 [] fun v0 =>
    st Try.prog h1 31 (nx h0) 0 v0 fun h2 =>
    ld Try.prog h2 31 (nx h0) 0 fun v1 =>
    some ((.tuple #[v1, (.int .i64 2)]), h2)) (
    ifB (lt 7 n0) (
      bld Try.prog 31 [] fun v2 =>
      st Try.prog h1 31 (nx h0) 0 v2 fun h3 =>
      ld Try.prog h3 31 (nx h0) 0 fun v3 =>
      some ((.tuple #[v3, (.int .i64 2)]), h3)) (
      calls rec h1 76 [(.int .i64 n0)] fun v4 h4 =>
      st Try.prog h4 31 (nx h0) 0 v4 fun h5 =>
      ld Try.prog h5 31 (nx h0) 0 fun v5 =>
      some ((.tuple #[v5, (.int .i64 0)]), h5)))

theorem e30 (rec : Rec) (k : Nat) (n0 : Int) (h : H) : bodyT Try.prog E0 SC (XC Try.prog rec k) 30 (Value × H) [.int .i64 n0] h (fun v h => some (v, h)) = f30 rec k n0 h := by kernel_rfl

theorem t30 {k : Nat} {n0 : Int} {h h1 : H} {v : Value} (hh : f30 rn k n0 h = some (v, h1)) : rn 30 #[.int .i64 n0] h = some (v, trunc Try.prog h h1 v) :=
  run_of_bodyT (args := [.int .i64 n0]) rfl ((e30 _ _ _ _).trans hh)

theorem x30 {k : Nat} {n0 : Int} {h h1 : H} {v : Value} (hh : f30 rn k n0 h = some (v, h1)) (hp : plainO v = false) : rn 30 #[.int .i64 n0] h = some (v, h1) := by rw [t30 hh, trunc_not hp]

noncomputable def f31 (rec : Rec) (_k : Nat) (n0 : Int) (h0 : H) : Option (Value × H) :=
  ifB (lt n0 1) (
    some ((.tuple #[(.int .i64 0), (.int .i64 2)]), h0)) (
    ifB (lt 7 n0) (
      some ((.tuple #[(.int .i64 0), (.int .i64 2)]), h0)) (
      calls rec h0 76 [(.int .i64 n0)] fun v0 h1 =>
      fld Try.prog 31 v0 1 fun v1 =>
      len v1 fun n1 =>
      some ((.tuple #[(.int .i64 n1), (.int .i64 0)]), h1)))

theorem e31 (rec : Rec) (k : Nat) (n0 : Int) (h : H) : bodyT Try.prog E0 SC (XC Try.prog rec k) 31 (Value × H) [.int .i64 n0] h (fun v h => some (v, h)) = f31 rec k n0 h := by kernel_rfl

theorem t31 {k : Nat} {n0 : Int} {h h1 : H} {v : Value} (hh : f31 rn k n0 h = some (v, h1)) : rn 31 #[.int .i64 n0] h = some (v, trunc Try.prog h h1 v) :=
  run_of_bodyT (args := [.int .i64 n0]) rfl ((e31 _ _ _ _).trans hh)

theorem p31 {k : Nat} {n0 : Int} {h h1 : H} {v : Value} (hh : f31 rn k n0 h = some (v, h1)) (hp : plainO v = true) (x : Ext h h1) : rn 31 #[.int .i64 n0] h = some (v, h) := by rw [t31 hh, trunc_pure hp x]

noncomputable def f32 (_rec : Rec) (_k : Nat) (v0 : Value) (h0 : H) : Option (Value × H) :=
  bx h0 31 v0 fun h1 =>
  ld Try.prog h1 3 (nx h0) 0 fun v1 =>
  asI .i64 v1 fun n0 =>
  ifB (eq n0 0) (
    ld Try.prog h1 29 (nx h0) (off 0 1) fun v2 =>
    len v2 fun n1 =>
    some ((.bool (eq n1 0)), h1)) (
    some ((.bool false), h1))

theorem e32 (rec : Rec) (k : Nat) (v0 : Value) (h : H) : bodyT Try.prog E0 SC (XC Try.prog rec k) 32 (Value × H) [.opq v0] h (fun v h => some (v, h)) = f32 rec k v0 h := by kernel_rfl

theorem t32 {k : Nat} {v0 : Value} {h h1 : H} {v : Value} (hh : f32 rn k v0 h = some (v, h1)) : rn 32 #[v0] h = some (v, trunc Try.prog h h1 v) :=
  run_of_bodyT (args := [.opq v0]) rfl ((e32 _ _ _ _).trans hh)

theorem p32 {k : Nat} {v0 : Value} {h h1 : H} {v : Value} (hh : f32 rn k v0 h = some (v, h1)) (hp : plainO v = true) (x : Ext h h1) : rn 32 #[v0] h = some (v, h) := by rw [t32 hh, trunc_pure hp x]

noncomputable def f33_l1 (_rec : Rec) (_k : Nat) (h2 : H) (v3 : Value) (n1 : Int) (ws0 : List Value) (h5 : H) : Option (Ex × List Value × H) :=
  asI .i64 (gv ws0 0) fun n2 =>
  ifB (lt n2 n1) (
    asK (gv ws0 0) fun n3 =>
    six v3 n3 3 fun b0 b1 =>
    ld Try.prog h5 56 b0 b1 fun v4 =>
    al h5 56 [(.int .i64 0), (.int .i64 0), (.int .i64 0)] fun h6 =>
    st Try.prog h6 56 (nx h5) 0 v4 fun h7 =>
    ld Try.prog h7 22 (nx h2) (off 0 1) fun v5 =>
    ld Try.prog h7 3 (nx h5) 0 fun v6 =>
    asI .i64 v6 fun n4 =>
    ld Try.prog h7 3 (nx h5) (off 0 1) fun v7 =>
    asI .i64 v7 fun n5 =>
    ld Try.prog h7 3 (nx h5) (off 0 2) fun v8 =>
    asI .i64 v8 fun n6 =>
    bld Try.prog 59 [(0, (.int .i64 n4)), (1, (.int .i64 n5)), (2, (.int .i64 n6))] fun v9 =>
    bls Try.prog h7 22 1 [(0, v9)] fun v10 h8 =>
    app Try.prog h8 22 22 v5 v10 fun v11 h9 =>
    st Try.prog h9 22 (nx h2) (off 0 1) v11 fun h10 =>
    asI .i64 (gv ws0 0) fun n7 =>
    out .normal [(.int .i64 (add .i64 n7 1))] h10) (
    out (.exit 0) [gv ws0 0] h5)

noncomputable def f33 (rec : Rec) (k : Nat) (v0 : Value) (h0 : H) : Option (Value × H) :=
  bx h0 31 v0 fun h1 =>
  al h1 24 [(.int .i64 0), (.slice none 0 0)] fun h2 =>
  ld Try.prog h2 3 (nx h0) 0 fun v1 =>
  asI .i64 v1 fun n0 =>
  bld Try.prog 24 [(0, (.int .i64 n0))] fun v2 =>
  al h2 24 [(.int .i64 0), (.slice none 0 0)] fun h3 =>
  st Try.prog h3 24 (nx h2) 0 v2 fun h4 =>
  ld Try.prog h4 29 (nx h0) (off 0 1) fun v3 =>
  len v3 fun n1 =>
  lp k (f33_l1 rec k h2 v3 n1) [(.int .i64 0)] h4 fun e0 _ h11 =>
  onE e0 0 (
    ld Try.prog h11 24 (nx h2) 0 fun v12 =>
    st Try.prog h11 24 (nx h1) 0 v12 fun h12 =>
    ld Try.prog h12 24 (nx h1) 0 fun v13 =>
    some (v13, h12)) (
    none)

theorem e33 (rec : Rec) (k : Nat) (v0 : Value) (h : H) : bodyT Try.prog E0 SC (XC Try.prog rec k) 33 (Value × H) [.opq v0] h (fun v h => some (v, h)) = f33 rec k v0 h := by kernel_rfl

theorem t33 {k : Nat} {v0 : Value} {h h1 : H} {v : Value} (hh : f33 rn k v0 h = some (v, h1)) : rn 33 #[v0] h = some (v, truncB true Try.prog h h1 v) :=
  run_of_bodyTK (args := [.opq v0]) rfl rfl ((e33 _ _ _ _).trans hh)

theorem x33 {k : Nat} {v0 : Value} {h h1 : H} {v : Value} (hh : f33 rn k v0 h = some (v, h1)) (hp : plainO v = false) (x : Ext h h1) : ∃ h2, rn 33 #[v0] h = some (v, h2) ∧ Sm h1 h2 ∧ Exw h h2 := ⟨_, t33 hh, truncB_not hp x⟩

noncomputable def f71_l1 (rec : Rec) (_k : Nat) (h0 : H) (v4 : Value) (n3 : Int) (ws0 : List Value) (h2 : H) : Option (Ex × List Value × H) :=
  asI .i64 (gv ws0 1) fun n4 =>
  ifB (lt n4 n3) (
    asK (gv ws0 1) fun n5 =>
    six v4 n5 3 fun b0 b1 =>
    ld Try.prog h2 56 b0 b1 fun v5 =>
    al h2 56 [(.int .i64 0), (.int .i64 0), (.int .i64 0)] fun h3 =>
    st Try.prog h3 56 (nx h2) 0 v5 fun h4 =>
    ld Try.prog h4 31 (nx h0) 0 fun v6 =>
    ld Try.prog h4 3 (nx h2) 0 fun v7 =>
    asI .i64 v7 fun n6 =>
    calls rec h4 72 [v6, (.int .i64 n6)] fun v8 h5 =>
    asB v8 fun q0 =>
    ifB (not q0) (
      out .ret [(.bool false), gv ws0 1] h5) (
      ld Try.prog h5 31 (nx h0) 0 fun v9 =>
      ld Try.prog h5 3 (nx h2) (off 0 1) fun v10 =>
      asI .i64 v10 fun n7 =>
      calls rec h5 72 [v9, (.int .i64 n7)] fun v11 h6 =>
      asB v11 fun q1 =>
      ifB (not q1) (
        out .ret [(.bool false), gv ws0 1] h6) (
        ld Try.prog h6 3 (nx h2) 0 fun v12 =>
        asI .i64 v12 fun n8 =>
        ld Try.prog h6 3 (nx h2) (off 0 1) fun v13 =>
        asI .i64 v13 fun n9 =>
        ifB (eq n8 n9) (
          out .ret [(.bool false), gv ws0 1] h6) (
          ld Try.prog h6 3 (nx h2) (off 0 2) fun v14 =>
          asI .i64 v14 fun n10 =>
          ifB (lt n10 1) (
            out .ret [(.bool false), gv ws0 1] h6) (
            ld Try.prog h6 3 (nx h2) (off 0 2) fun v15 =>
            asI .i64 v15 fun n11 =>
            ifB (lt 30 n11) (
              out .ret [(.bool false), gv ws0 1] h6) (
              asI .i64 (gv ws0 1) fun n12 =>
              ifB (lt 0 n12) (
                ld Try.prog h6 29 (nx h0) (off 0 1) fun v16 =>
                asI .i64 (gv ws0 1) fun n13 =>
                six v16 (sub .i64 n13 1) 3 fun b2 b3 =>
                ld Try.prog h6 3 b2 (off b3 2) fun v17 =>
                asI .i64 v17 fun n14 =>
                ld Try.prog h6 3 (nx h2) (off 0 2) fun v18 =>
                asI .i64 v18 fun n15 =>
                ifB (lt n15 n14) (
                  out .ret [(.bool false), gv ws0 1] h6) (
                  ld Try.prog h6 29 (nx h0) (off 0 1) fun v19 =>
                  sli Try.prog h6 29 v19 none (some (gv ws0 1)) none fun v20 =>
                  calls rec h6 89 [v20, (.func (.func 99) #[] #[(pt (nx h2) 0)])] fun v21 h7 =>
                  asB v21 fun q2 =>
                  ifB q2 (
                    out .ret [(.bool false), gv ws0 1] h7) (
                    asI .i64 (gv ws0 1) fun n16 =>
                    out .normal [gv ws0 0, (.int .i64 (add .i64 n16 1))] h7))) (
                ld Try.prog h6 29 (nx h0) (off 0 1) fun v22 =>
                sli Try.prog h6 29 v22 none (some (gv ws0 1)) none fun v23 =>
                calls rec h6 89 [v23, (.func (.func 99) #[] #[(pt (nx h2) 0)])] fun v24 h8 =>
                asB v24 fun q3 =>
                ifB q3 (
                  out .ret [(.bool false), gv ws0 1] h8) (
                  asI .i64 (gv ws0 1) fun n17 =>
                  out .normal [gv ws0 0, (.int .i64 (add .i64 n17 1))] h8)))))))) (
    out (.exit 0) [gv ws0 0, gv ws0 1] h2)

noncomputable def f71 (rec : Rec) (k : Nat) (v0 : Value) (h0 : H) : Option (Value × H) :=
  bx h0 31 v0 fun h1 =>
  ld Try.prog h1 3 (nx h0) 0 fun v1 =>
  asI .i64 v1 fun n0 =>
  ifB (lt n0 1) (
    some ((.bool false), h1)) (
    ld Try.prog h1 3 (nx h0) 0 fun v2 =>
    asI .i64 v2 fun n1 =>
    ifB (lt 7 n1) (
      some ((.bool false), h1)) (
      ld Try.prog h1 29 (nx h0) (off 0 1) fun v3 =>
      len v3 fun n2 =>
      ifB (lt 24 n2) (
        some ((.bool false), h1)) (
        ld Try.prog h1 29 (nx h0) (off 0 1) fun v4 =>
        len v4 fun n3 =>
        lp k (f71_l1 rec k h0 v4 n3) [(.bool false), (.int .i64 0)] h1 fun e0 ws1 h9 =>
        onE e0 0 (
          some ((.bool true), h9)) (
          onR e0 (
            some (gv ws1 0, h9))))))

theorem e71 (rec : Rec) (k : Nat) (v0 : Value) (h : H) : bodyT Try.prog E0 SC (XC Try.prog rec k) 71 (Value × H) [.opq v0] h (fun v h => some (v, h)) = f71 rec k v0 h := by kernel_rfl

theorem t71 {k : Nat} {v0 : Value} {h h1 : H} {v : Value} (hh : f71 rn k v0 h = some (v, h1)) : rn 71 #[v0] h = some (v, trunc Try.prog h h1 v) :=
  run_of_bodyT (args := [.opq v0]) rfl ((e71 _ _ _ _).trans hh)

theorem p71 {k : Nat} {v0 : Value} {h h1 : H} {v : Value} (hh : f71 rn k v0 h = some (v, h1)) (hp : plainO v = true) (x : Ext h h1) : rn 71 #[v0] h = some (v, h) := by rw [t71 hh, trunc_pure hp x]

noncomputable def f72 (_rec : Rec) (_k : Nat) (v0 : Value) (n0 : Int) (h0 : H) : Option (Value × H) :=
  bx h0 31 v0 fun h1 =>
  ifB (le 0 n0) (
    ld Try.prog h1 3 (nx h0) 0 fun v1 =>
    asI .i64 v1 fun n1 =>
    some ((.bool (lt n0 n1)), h1)) (
    some ((.bool false), h1))

theorem e72 (rec : Rec) (k : Nat) (v0 : Value) (n0 : Int) (h : H) : bodyT Try.prog E0 SC (XC Try.prog rec k) 72 (Value × H) [.opq v0, .int .i64 n0] h (fun v h => some (v, h)) = f72 rec k v0 n0 h := by kernel_rfl

theorem t72 {k : Nat} {v0 : Value} {n0 : Int} {h h1 : H} {v : Value} (hh : f72 rn k v0 n0 h = some (v, h1)) : rn 72 #[v0, .int .i64 n0] h = some (v, trunc Try.prog h h1 v) :=
  run_of_bodyT (args := [.opq v0, .int .i64 n0]) rfl ((e72 _ _ _ _ _).trans hh)

theorem p72 {k : Nat} {v0 : Value} {n0 : Int} {h h1 : H} {v : Value} (hh : f72 rn k v0 n0 h = some (v, h1)) (hp : plainO v = true) (x : Ext h h1) : rn 72 #[v0, .int .i64 n0] h = some (v, h) := by rw [t72 hh, trunc_pure hp x]

noncomputable def f73 (_rec : Rec) (_k : Nat) (v0 : Value) (n0 : Int) (h0 : H) : Option (Value × H) :=
  bx h0 56 v0 fun h1 =>
  ld Try.prog h1 3 (nx h0) 0 fun v1 =>
  asI .i64 v1 fun n1 =>
  ifB (eq n1 n0) (
    some ((.bool true), h1)) (
    ld Try.prog h1 3 (nx h0) (off 0 1) fun v2 =>
    asI .i64 v2 fun n2 =>
    some ((.bool (eq n2 n0)), h1))

theorem e73 (rec : Rec) (k : Nat) (v0 : Value) (n0 : Int) (h : H) : bodyT Try.prog E0 SC (XC Try.prog rec k) 73 (Value × H) [.opq v0, .int .i64 n0] h (fun v h => some (v, h)) = f73 rec k v0 n0 h := by kernel_rfl

theorem t73 {k : Nat} {v0 : Value} {n0 : Int} {h h1 : H} {v : Value} (hh : f73 rn k v0 n0 h = some (v, h1)) : rn 73 #[v0, .int .i64 n0] h = some (v, trunc Try.prog h h1 v) :=
  run_of_bodyT (args := [.opq v0, .int .i64 n0]) rfl ((e73 _ _ _ _ _).trans hh)

theorem p73 {k : Nat} {v0 : Value} {n0 : Int} {h h1 : H} {v : Value} (hh : f73 rn k v0 n0 h = some (v, h1)) (hp : plainO v = true) (x : Ext h h1) : rn 73 #[v0, .int .i64 n0] h = some (v, h) := by rw [t73 hh, trunc_pure hp x]

noncomputable def f74 (_rec : Rec) (_k : Nat) (v0 : Value) (n0 : Int) (h0 : H) : Option (Value × H) :=
  bx h0 56 v0 fun h1 =>
  ld Try.prog h1 3 (nx h0) 0 fun v1 =>
  asI .i64 v1 fun n1 =>
  ld Try.prog h1 3 (nx h0) (off 0 1) fun v2 =>
  asI .i64 v2 fun n2 =>
  some ((.int .i64 (sub .i64 (add .i64 n1 n2) n0)), h1)

theorem e74 (rec : Rec) (k : Nat) (v0 : Value) (n0 : Int) (h : H) : bodyT Try.prog E0 SC (XC Try.prog rec k) 74 (Value × H) [.opq v0, .int .i64 n0] h (fun v h => some (v, h)) = f74 rec k v0 n0 h := by kernel_rfl

theorem t74 {k : Nat} {v0 : Value} {n0 : Int} {h h1 : H} {v : Value} (hh : f74 rn k v0 n0 h = some (v, h1)) : rn 74 #[v0, .int .i64 n0] h = some (v, trunc Try.prog h h1 v) :=
  run_of_bodyT (args := [.opq v0, .int .i64 n0]) rfl ((e74 _ _ _ _ _).trans hh)

theorem p74 {k : Nat} {v0 : Value} {n0 : Int} {h h1 : H} {v : Value} (hh : f74 rn k v0 n0 h = some (v, h1)) (hp : plainO v = true) (x : Ext h h1) : rn 74 #[v0, .int .i64 n0] h = some (v, h) := by rw [t74 hh, trunc_pure hp x]

noncomputable def f75 (_rec : Rec) (_k : Nat) (v0 : Value) (h0 : H) : Option (Value × H) :=
  eqv Try.prog 25 v0 (.slice none 0 0) fun q0 =>
  ifB q0 (
    some ((.slice none 0 0), h0)) (
    bls Try.prog h0 25 0 [] fun v1 h1 =>
    app Try.prog h1 25 25 v1 v0 fun v2 h2 =>
    some (v2, h2))

theorem e75 (rec : Rec) (k : Nat) (v0 : Value) (h : H) : bodyT Try.prog E0 SC (XC Try.prog rec k) 75 (Value × H) [.opq v0] h (fun v h => some (v, h)) = f75 rec k v0 h := by kernel_rfl

theorem t75 {k : Nat} {v0 : Value} {h h1 : H} {v : Value} (hh : f75 rn k v0 h = some (v, h1)) : rn 75 #[v0] h = some (v, trunc Try.prog h h1 v) :=
  run_of_bodyT (args := [.opq v0]) rfl ((e75 _ _ _ _).trans hh)

theorem x75 {k : Nat} {v0 : Value} {h h1 : H} {v : Value} (hh : f75 rn k v0 h = some (v, h1)) (hp : plainO v = false) : rn 75 #[v0] h = some (v, h1) := by rw [t75 hh, trunc_not hp]

noncomputable def f76_l1 (rec : Rec) (_k : Nat) (n0 : Int) (h1 : H) (h3 : H) (ws0 : List Value) (h6 : H) : Option (Ex × List Value × H) :=
  asI .i64 (gv ws0 0) fun n1 =>
  ifB (lt n1 n0) (
    asI .i64 (gv ws0 0) fun n2 =>
    calls rec h6 100 [(.int .i64 (sub .i64 n2 1)), gv ws0 0, (pt (nx h3) 0), (pt (nx h1) 0)] fun _ h7 =>
    asI .i64 (gv ws0 0) fun n3 =>
    out .normal [(.int .i64 (add .i64 n3 1))] h7) (
    out (.exit 0) [gv ws0 0] h6)

noncomputable def f76_l2 (rec : Rec) (_k : Nat) (n0 : Int) (h1 : H) (h3 : H) (ws2 : List Value) (h12 : H) : Option (Ex × List Value × H) :=
  asI .i64 (gv ws2 0) fun n4 =>
  ifB (lt n4 n0) (
    calls rec h12 100 [(.int .i64 0), gv ws2 0, (pt (nx h3) 0), (pt (nx h1) 0)] fun _ h13 =>
    asI .i64 (gv ws2 0) fun n5 =>
    out .normal [(.int .i64 (add .i64 n5 1))] h13) (
    out (.exit 2) [gv ws2 0] h12)

noncomputable def f76_l3 (rec : Rec) (_k : Nat) (n0 : Int) (h1 : H) (h3 : H) (ws4 : List Value) (h19 : H) : Option (Ex × List Value × H) :=
  asI .i64 (gv ws4 0) fun n6 =>
  ifB (lt n6 n0) (
    calls rec h19 100 [(.int .i64 0), gv ws4 0, (pt (nx h3) 0), (pt (nx h1) 0)] fun _ h20 =>
    asI .i64 (gv ws4 0) fun n7 =>
    out .normal [(.int .i64 (add .i64 n7 1))] h20) (
    out (.exit 4) [gv ws4 0] h19)

noncomputable def f76 (rec : Rec) (k : Nat) (n0 : Int) (h0 : H) : Option (Value × H) :=
  al h0 31 [(.int .i64 0), (.slice none 0 0)] fun h1 =>
  bld Try.prog 31 [(0, (.int .i64 n0))] fun v0 =>
  al h1 31 [(.int .i64 0), (.slice none 0 0)] fun h2 =>
  st Try.prog h2 31 (nx h1) 0 v0 fun h3 =>
  al h3 3 [(.int .i64 0)] fun h4 =>
  st Try.prog h4 3 (nx h3) 0 (.int .i64 0) fun h5 =>
  ifB (lt n0 4) (
    lp k (f76_l1 rec k n0 h1 h3) [(.int .i64 1)] h5 fun e0 _ h8 =>
    onE e0 0 (
      ifB (eq n0 3) (
        calls rec h8 100 [(.int .i64 0), (.int .i64 1), (pt (nx h3) 0), (pt (nx h1) 0)] fun _ h9 =>
        ld Try.prog h9 31 (nx h1) 0 fun v3 =>
        st Try.prog h9 31 (nx h0) 0 v3 fun h10 =>
        ld Try.prog h10 31 (nx h0) 0 fun v4 =>
        some (v4, h10)) (
        ld Try.prog h8 31 (nx h1) 0 fun v5 =>
        st Try.prog h8 31 (nx h0) 0 v5 fun h11 =>
        ld Try.prog h11 31 (nx h0) 0 fun v6 =>
        some (v6, h11))) (
      none)) (
    lp k (f76_l2 rec k n0 h1 h3) [(.int .i64 4)] h5 fun e1 _ h14 =>
    onE e1 2 (
      calls rec h14 100 [(.int .i64 0), (.int .i64 1), (pt (nx h3) 0), (pt (nx h1) 0)] fun _ h15 =>
      calls rec h15 100 [(.int .i64 2), (.int .i64 3), (pt (nx h3) 0), (pt (nx h1) 0)] fun _ h16 =>
      calls rec h16 100 [(.int .i64 0), (.int .i64 2), (pt (nx h3) 0), (pt (nx h1) 0)] fun _ h17 =>
      calls rec h17 100 [(.int .i64 1), (.int .i64 3), (pt (nx h3) 0), (pt (nx h1) 0)] fun _ h18 =>
      lp k (f76_l3 rec k n0 h1 h3) [(.int .i64 4)] h18 fun e2 _ h21 =>
      onE e2 4 (
        ld Try.prog h21 31 (nx h1) 0 fun v13 =>
        st Try.prog h21 31 (nx h0) 0 v13 fun h22 =>
        ld Try.prog h22 31 (nx h0) 0 fun v14 =>
        some (v14, h22)) (
        none)) (
      none))

theorem e76 (rec : Rec) (k : Nat) (n0 : Int) (h : H) : bodyT Try.prog E0 SC (XC Try.prog rec k) 76 (Value × H) [.int .i64 n0] h (fun v h => some (v, h)) = f76 rec k n0 h := by kernel_rfl

theorem t76 {k : Nat} {n0 : Int} {h h1 : H} {v : Value} (hh : f76 rn k n0 h = some (v, h1)) : rn 76 #[.int .i64 n0] h = some (v, trunc Try.prog h h1 v) :=
  run_of_bodyT (args := [.int .i64 n0]) rfl ((e76 _ _ _ _).trans hh)

theorem x76 {k : Nat} {n0 : Int} {h h1 : H} {v : Value} (hh : f76 rn k n0 h = some (v, h1)) (hp : plainO v = false) : rn 76 #[.int .i64 n0] h = some (v, h1) := by rw [t76 hh, trunc_not hp]

noncomputable def f77_l1 (_rec : Rec) (_k : Nat) (n0 : Int) (ws0 : List Value) (h2 : H) : Option (Ex × List Value × H) :=
  asI .i64 (gv ws0 1) fun n1 =>
  ifB (lt n1 n0) (
    asK (gv ws0 1) fun n2 =>
    nn n2 (
      bls Try.prog h2 25 1 [(0, (.int .i64 (shl .i64 1 n2)))] fun v2 h3 =>
      app Try.prog h3 25 25 (gv ws0 0) v2 fun v3 h4 =>
      asI .i64 (gv ws0 1) fun n3 =>
      out .normal [v3, (.int .i64 (add .i64 n3 1))] h4)) (
    out (.exit 0) [gv ws0 0, gv ws0 1] h2)

noncomputable def f77 (rec : Rec) (k : Nat) (v0 : Value) (h0 : H) : Option (Value × H) :=
  bx h0 31 v0 fun h1 =>
  ld Try.prog h1 3 (nx h0) 0 fun v1 =>
  asI .i64 v1 fun n0 =>
  lp k (f77_l1 rec k n0) [(.slice none 0 0), (.int .i64 0)] h1 fun e0 ws1 h5 =>
  onE e0 0 (
    some (gv ws1 0, h5)) (
    none)

theorem e77 (rec : Rec) (k : Nat) (v0 : Value) (h : H) : bodyT Try.prog E0 SC (XC Try.prog rec k) 77 (Value × H) [.opq v0] h (fun v h => some (v, h)) = f77 rec k v0 h := by kernel_rfl

theorem t77 {k : Nat} {v0 : Value} {h h1 : H} {v : Value} (hh : f77 rn k v0 h = some (v, h1)) : rn 77 #[v0] h = some (v, trunc Try.prog h h1 v) :=
  run_of_bodyT (args := [.opq v0]) rfl ((e77 _ _ _ _).trans hh)

theorem x77 {k : Nat} {v0 : Value} {h h1 : H} {v : Value} (hh : f77 rn k v0 h = some (v, h1)) (hp : plainO v = false) : rn 77 #[v0] h = some (v, h1) := by rw [t77 hh, trunc_not hp]

noncomputable def f78 (_rec : Rec) (_k : Nat) (v0 : Value) (v1 : Value) (h0 : H) : Option (Value × H) :=
  bx h0 56 v1 fun h1 =>
  ld Try.prog h1 3 (nx h0) 0 fun v2 =>
  asI .i64 v2 fun n0 =>
  six v0 n0 1 fun b0 b1 =>
  ld Try.prog h1 3 b0 b1 fun v3 =>
  asI .i64 v3 fun n1 =>
  ld Try.prog h1 3 (nx h0) (off 0 1) fun v4 =>
  asI .i64 v4 fun n2 =>
  six v0 n2 1 fun b2 b3 =>
  ld Try.prog h1 3 b2 b3 fun v5 =>
  asI .i64 v5 fun n3 =>
  ld Try.prog h1 3 (nx h0) 0 fun v6 =>
  asI .i64 v6 fun n4 =>
  six v0 n4 1 fun b4 b5 =>
  ld Try.prog h1 3 b4 b5 fun v7 =>
  asI .i64 v7 fun n5 =>
  ifB (not (eq n5 (or .i64 n1 n3))) (
    ld Try.prog h1 3 (nx h0) 0 fun v8 =>
    asI .i64 v8 fun n6 =>
    ld Try.prog h1 3 (nx h0) (off 0 1) fun v9 =>
    asI .i64 v9 fun n7 =>
    six v0 n6 1 fun b6 b7 =>
    st Try.prog h1 3 b6 b7 (.int .i64 (or .i64 n1 n3)) fun h2 =>
    ck (fre (nx h0) (nx h1) (off 0 1) 1 b6 b7 1) (
      six v0 n7 1 fun b8 b9 =>
      st Try.prog h2 3 b8 b9 (.int .i64 (or .i64 n1 n3)) fun h3 =>
      some ((.bool true), h3))) (
    ld Try.prog h1 3 (nx h0) (off 0 1) fun v10 =>
    asI .i64 v10 fun n8 =>
    six v0 n8 1 fun b10 b11 =>
    ld Try.prog h1 3 b10 b11 fun v11 =>
    asI .i64 v11 fun n9 =>
    ld Try.prog h1 3 (nx h0) 0 fun v12 =>
    asI .i64 v12 fun n10 =>
    ld Try.prog h1 3 (nx h0) (off 0 1) fun v13 =>
    asI .i64 v13 fun n11 =>
    six v0 n10 1 fun b12 b13 =>
    st Try.prog h1 3 b12 b13 (.int .i64 (or .i64 n1 n3)) fun h4 =>
    ck (fre (nx h0) (nx h1) (off 0 1) 1 b12 b13 1) (
      six v0 n11 1 fun b14 b15 =>
      st Try.prog h4 3 b14 b15 (.int .i64 (or .i64 n1 n3)) fun h5 =>
      some ((.bool (not (eq n9 (or .i64 n1 n3)))), h5)))

theorem e78 (rec : Rec) (k : Nat) (v0 : Value) (v1 : Value) (h : H) : bodyT Try.prog E0 SC (XC Try.prog rec k) 78 (Value × H) [.opq v0, .opq v1] h (fun v h => some (v, h)) = f78 rec k v0 v1 h := by kernel_rfl

theorem t78 {k : Nat} {v0 : Value} {v1 : Value} {h h1 : H} {v : Value} (hh : f78 rn k v0 v1 h = some (v, h1)) : rn 78 #[v0, v1] h = some (v, trunc Try.prog h h1 v) :=
  run_of_bodyT (args := [.opq v0, .opq v1]) rfl ((e78 _ _ _ _ _).trans hh)

noncomputable def f79_l1 (_rec : Rec) (_k : Nat) (v2 : Value) (n1 : Int) (ws0 : List Value) (h3 : H) : Option (Ex × List Value × H) :=
  asI .i64 (gv ws0 0) fun n2 =>
  ifB (lt n2 n1) (
    asK (gv ws0 0) fun n3 =>
    nn n3 (
      asK (gv ws0 0) fun n4 =>
      six v2 n4 1 fun b0 b1 =>
      st Try.prog h3 3 b0 b1 (.int .i64 (shl .i64 1 n3)) fun h4 =>
      asI .i64 (gv ws0 0) fun n5 =>
      out .normal [(.int .i64 (add .i64 n5 1))] h4)) (
    out (.exit 0) [gv ws0 0] h3)

noncomputable def f79_l2 (_rec : Rec) (_k : Nat) (h0 : H) (v4 : Value) (n6 : Int) (ws2 : List Value) (h7 : H) : Option (Ex × List Value × H) :=
  asI .i64 (gv ws2 1) fun n7 =>
  ifB (lt n7 n6) (
    asK (gv ws2 1) fun n8 =>
    six v4 n8 3 fun b2 b3 =>
    ld Try.prog h7 59 b2 b3 fun v5 =>
    al h7 59 [(.int .i64 0), (.int .i64 0), (.int .i64 0)] fun h8 =>
    st Try.prog h8 59 (nx h7) 0 v5 fun h9 =>
    asI .i64 (gv ws2 1) fun n9 =>
    ifB (eq n9 0) (
      bls Try.prog h9 25 0 [] fun v6 h10 =>
      len (gv ws2 0) fun n10 =>
      six (gv ws2 0) (sub .i64 n10 1) 1 fun b4 b5 =>
      ld Try.prog h10 25 b4 b5 fun v7 =>
      app Try.prog h10 25 25 v6 v7 fun v8 h11 =>
      bls Try.prog h11 58 1 [(0, v8)] fun v9 h12 =>
      app Try.prog h12 58 58 (gv ws2 0) v9 fun v10 h13 =>
      len v10 fun n11 =>
      six v10 (sub .i64 n11 1) 1 fun b6 b7 =>
      ld Try.prog h13 25 b6 b7 fun v11 =>
      ld Try.prog h13 3 (nx h7) 0 fun v12 =>
      asI .i64 v12 fun n12 =>
      six v11 n12 1 fun b8 b9 =>
      ld Try.prog h13 3 b8 b9 fun v13 =>
      asI .i64 v13 fun n13 =>
      ld Try.prog h13 3 (nx h7) (off 0 1) fun v14 =>
      asI .i64 v14 fun n14 =>
      six v11 n14 1 fun b10 b11 =>
      ld Try.prog h13 3 b10 b11 fun v15 =>
      asI .i64 v15 fun n15 =>
      ld Try.prog h13 3 (nx h7) 0 fun v16 =>
      asI .i64 v16 fun n16 =>
      ld Try.prog h13 3 (nx h7) (off 0 1) fun v17 =>
      asI .i64 v17 fun n17 =>
      six v11 n16 1 fun b12 b13 =>
      st Try.prog h13 3 b12 b13 (.int .i64 (or .i64 n13 n15)) fun h14 =>
      ck (fre (nx h7) (nx h13) (off 0 1) 1 b12 b13 1) (
        six v11 n17 1 fun b14 b15 =>
        st Try.prog h14 3 b14 b15 (.int .i64 (or .i64 n13 n15)) fun h15 =>
        asI .i64 (gv ws2 1) fun n18 =>
        out .normal [v10, (.int .i64 (add .i64 n18 1))] h15)) (
      ld Try.prog h9 22 (nx h0) (off 0 1) fun v18 =>
      asI .i64 (gv ws2 1) fun n19 =>
      six v18 (sub .i64 n19 1) 3 fun b16 b17 =>
      ld Try.prog h9 3 b16 (off b17 2) fun v19 =>
      asI .i64 v19 fun n20 =>
      ld Try.prog h9 3 (nx h7) (off 0 2) fun v20 =>
      asI .i64 v20 fun n21 =>
      ifB (lt n20 n21) (
        bls Try.prog h9 25 0 [] fun v21 h16 =>
        len (gv ws2 0) fun n22 =>
        six (gv ws2 0) (sub .i64 n22 1) 1 fun b18 b19 =>
        ld Try.prog h16 25 b18 b19 fun v22 =>
        app Try.prog h16 25 25 v21 v22 fun v23 h17 =>
        bls Try.prog h17 58 1 [(0, v23)] fun v24 h18 =>
        app Try.prog h18 58 58 (gv ws2 0) v24 fun v25 h19 =>
        len v25 fun n23 =>
        six v25 (sub .i64 n23 1) 1 fun b20 b21 =>
        ld Try.prog h19 25 b20 b21 fun v26 =>
        ld Try.prog h19 3 (nx h7) 0 fun v27 =>
        asI .i64 v27 fun n24 =>
        six v26 n24 1 fun b22 b23 =>
        ld Try.prog h19 3 b22 b23 fun v28 =>
        asI .i64 v28 fun n25 =>
        ld Try.prog h19 3 (nx h7) (off 0 1) fun v29 =>
        asI .i64 v29 fun n26 =>
        six v26 n26 1 fun b24 b25 =>
        ld Try.prog h19 3 b24 b25 fun v30 =>
        asI .i64 v30 fun n27 =>
        ld Try.prog h19 3 (nx h7) 0 fun v31 =>
        asI .i64 v31 fun n28 =>
        ld Try.prog h19 3 (nx h7) (off 0 1) fun v32 =>
        asI .i64 v32 fun n29 =>
        six v26 n28 1 fun b26 b27 =>
        st Try.prog h19 3 b26 b27 (.int .i64 (or .i64 n25 n27)) fun h20 =>
        ck (fre (nx h7) (nx h19) (off 0 1) 1 b26 b27 1) (
          six v26 n29 1 fun b28 b29 =>
          st Try.prog h20 3 b28 b29 (.int .i64 (or .i64 n25 n27)) fun h21 =>
          asI .i64 (gv ws2 1) fun n30 =>
          out .normal [v25, (.int .i64 (add .i64 n30 1))] h21)) (
        len (gv ws2 0) fun n31 =>
        six (gv ws2 0) (sub .i64 n31 1) 1 fun b30 b31 =>
        ld Try.prog h9 25 b30 b31 fun v33 =>
        ld Try.prog h9 3 (nx h7) 0 fun v34 =>
        asI .i64 v34 fun n32 =>
        six v33 n32 1 fun b32 b33 =>
        ld Try.prog h9 3 b32 b33 fun v35 =>
        asI .i64 v35 fun n33 =>
        ld Try.prog h9 3 (nx h7) (off 0 1) fun v36 =>
        asI .i64 v36 fun n34 =>
        six v33 n34 1 fun b34 b35 =>
        ld Try.prog h9 3 b34 b35 fun v37 =>
        asI .i64 v37 fun n35 =>
        ld Try.prog h9 3 (nx h7) 0 fun v38 =>
        asI .i64 v38 fun n36 =>
        ld Try.prog h9 3 (nx h7) (off 0 1) fun v39 =>
        asI .i64 v39 fun n37 =>
        six v33 n36 1 fun b36 b37 =>
        st Try.prog h9 3 b36 b37 (.int .i64 (or .i64 n33 n35)) fun h22 =>
        ck (fre (nx h7) (nx h9) (off 0 1) 1 b36 b37 1) (
          six v33 n37 1 fun b38 b39 =>
          st Try.prog h22 3 b38 b39 (.int .i64 (or .i64 n33 n35)) fun h23 =>
          asI .i64 (gv ws2 1) fun n38 =>
          out .normal [gv ws2 0, (.int .i64 (add .i64 n38 1))] h23)))) (
    out (.exit 2) [gv ws2 0, gv ws2 1] h7)

noncomputable def f79 (rec : Rec) (k : Nat) (v0 : Value) (h0 : H) : Option (Value × H) :=
  bx h0 24 v0 fun h1 =>
  ld Try.prog h1 3 (nx h0) 0 fun v1 =>
  asI .i64 v1 fun n0 =>
  mks Try.prog h1 25 n0 n0 fun v2 h2 =>
  len v2 fun n1 =>
  lp k (f79_l1 rec k v2 n1) [(.int .i64 0)] h2 fun e0 _ h5 =>
  onE e0 0 (
    bls Try.prog h5 58 1 [(0, v2)] fun v3 h6 =>
    ld Try.prog h6 22 (nx h0) (off 0 1) fun v4 =>
    len v4 fun n6 =>
    lp k (f79_l2 rec k h0 v4 n6) [v3, (.int .i64 0)] h6 fun e1 ws3 h24 =>
    onE e1 2 (
      some (gv ws3 0, h24)) (
      none)) (
    none)

theorem e79 (rec : Rec) (k : Nat) (v0 : Value) (h : H) : bodyT Try.prog E0 SC (XC Try.prog rec k) 79 (Value × H) [.opq v0] h (fun v h => some (v, h)) = f79 rec k v0 h := by kernel_rfl

theorem t79 {k : Nat} {v0 : Value} {h h1 : H} {v : Value} (hh : f79 rn k v0 h = some (v, h1)) : rn 79 #[v0] h = some (v, trunc Try.prog h h1 v) :=
  run_of_bodyT (args := [.opq v0]) rfl ((e79 _ _ _ _).trans hh)

theorem x79 {k : Nat} {v0 : Value} {h h1 : H} {v : Value} (hh : f79 rn k v0 h = some (v, h1)) (hp : plainO v = false) : rn 79 #[v0] h = some (v, h1) := by rw [t79 hh, trunc_not hp]

noncomputable def f89 (rec : Rec) (_k : Nat) (v0 : Value) (v1 : Value) (h0 : H) : Option (Value × H) :=
  calls rec h0 105 [v0, v1] fun v2 h1 =>
  asI .i64 v2 fun n0 =>
  some ((.bool (le 0 n0)), h1)

theorem e89 (rec : Rec) (k : Nat) (v0 : Value) (v1 : Value) (h : H) : bodyT Try.prog E0 SC (XC Try.prog rec k) 89 (Value × H) [.opq v0, .opq v1] h (fun v h => some (v, h)) = f89 rec k v0 v1 h := by kernel_rfl

theorem t89 {k : Nat} {v0 : Value} {v1 : Value} {h h1 : H} {v : Value} (hh : f89 rn k v0 v1 h = some (v, h1)) : rn 89 #[v0, v1] h = some (v, trunc Try.prog h h1 v) :=
  run_of_bodyT (args := [.opq v0, .opq v1]) rfl ((e89 _ _ _ _ _).trans hh)

theorem p89 {k : Nat} {v0 : Value} {v1 : Value} {h h1 : H} {v : Value} (hh : f89 rn k v0 v1 h = some (v, h1)) (hp : plainO v = true) (x : Ext h h1) : rn 89 #[v0, v1] h = some (v, h) := by rw [t89 hh, trunc_pure hp x]

noncomputable def f99 (rec : Rec) (_k : Nat) (v0 : Value) (v1 : Value) (h0 : H) : Option (Value × H) :=
  bx h0 56 v0 fun h1 =>
  ld Try.prog h1 3 (nx h0) (off 0 2) fun v2 =>
  asI .i64 v2 fun n0 =>
  asP v1 fun b0 b1 =>
  ld Try.prog h1 3 b0 (off b1 2) fun v3 =>
  asI .i64 v3 fun n1 =>
  ifB (eq n0 n1) (
    ld Try.prog h1 56 (nx h0) 0 fun v4 =>
    asP v1 fun b2 b3 =>
    ld Try.prog h1 3 b2 b3 fun v5 =>
    asI .i64 v5 fun n2 =>
    calls rec h1 73 [v4, (.int .i64 n2)] fun v6 h2 =>
    asB v6 fun q0 =>
    ifB q0 (
      some ((.bool true), h2)) (
      ld Try.prog h2 56 (nx h0) 0 fun v7 =>
      asP v1 fun b4 b5 =>
      ld Try.prog h2 3 b4 (off b5 1) fun v8 =>
      asI .i64 v8 fun n3 =>
      calls rec h2 73 [v7, (.int .i64 n3)] fun v9 h3 =>
      asB v9 fun q1 =>
      some ((.bool q1), h3))) (
    some ((.bool false), h1))

theorem e99 (rec : Rec) (k : Nat) (v0 : Value) (v1 : Value) (h : H) : bodyT Try.prog E0 SC (XC Try.prog rec k) 99 (Value × H) [.opq v0, .opq v1] h (fun v h => some (v, h)) = f99 rec k v0 v1 h := by kernel_rfl

theorem t99 {k : Nat} {v0 : Value} {v1 : Value} {h h1 : H} {v : Value} (hh : f99 rn k v0 v1 h = some (v, h1)) : rn 99 #[v0, v1] h = some (v, trunc Try.prog h h1 v) :=
  run_of_bodyT (args := [.opq v0, .opq v1]) rfl ((e99 _ _ _ _ _).trans hh)

theorem p99 {k : Nat} {v0 : Value} {v1 : Value} {h h1 : H} {v : Value} (hh : f99 rn k v0 v1 h = some (v, h1)) (hp : plainO v = true) (x : Ext h h1) : rn 99 #[v0, v1] h = some (v, h) := by rw [t99 hh, trunc_pure hp x]

noncomputable def f100 (_rec : Rec) (_k : Nat) (n0 : Int) (n1 : Int) (v0 : Value) (v1 : Value) (h0 : H) : Option (Value × H) :=
  asP v0 fun b0 b1 =>
  ld Try.prog h0 3 b0 b1 fun v2 =>
  asI .i64 v2 fun n2 =>
  asP v0 fun b2 b3 =>
  st Try.prog h0 3 b2 b3 (.int .i64 (add .i64 n2 1)) fun h1 =>
  asP v1 fun b4 b5 =>
  ld Try.prog h1 29 b4 (off b5 1) fun v3 =>
  asP v0 fun b6 b7 =>
  ld Try.prog h1 3 b6 b7 fun v4 =>
  asI .i64 v4 fun n3 =>
  bld Try.prog 56 [(0, (.int .i64 n0)), (1, (.int .i64 n1)), (2, (.int .i64 n3))] fun v5 =>
  bls Try.prog h1 29 1 [(0, v5)] fun v6 h2 =>
  app Try.prog h2 29 29 v3 v6 fun v7 h3 =>
  asP v1 fun b8 b9 =>
  st Try.prog h3 29 b8 (off b9 1) v7 fun h4 =>
  some (undef, h4)

theorem e100 (rec : Rec) (k : Nat) (n0 : Int) (n1 : Int) (v0 : Value) (v1 : Value) (h : H) : bodyT Try.prog E0 SC (XC Try.prog rec k) 100 (Value × H) [.int .i64 n0, .int .i64 n1, .opq v0, .opq v1] h (fun v h => some (v, h)) = f100 rec k n0 n1 v0 v1 h := by kernel_rfl

theorem t100 {k : Nat} {n0 : Int} {n1 : Int} {v0 : Value} {v1 : Value} {h h1 : H} {v : Value} (hh : f100 rn k n0 n1 v0 v1 h = some (v, h1)) : rn 100 #[.int .i64 n0, .int .i64 n1, v0, v1] h = some (v, trunc Try.prog h h1 v) :=
  run_of_bodyT (args := [.int .i64 n0, .int .i64 n1, .opq v0, .opq v1]) rfl ((e100 _ _ _ _ _ _ _).trans hh)

theorem x100 {k : Nat} {n0 : Int} {n1 : Int} {v0 : Value} {v1 : Value} {h h1 : H} {v : Value} (hh : f100 rn k n0 n1 v0 v1 h = some (v, h1)) (hp : plainO v = false) : rn 100 #[.int .i64 n0, .int .i64 n1, v0, v1] h = some (v, h1) := by rw [t100 hh, trunc_not hp]

noncomputable def f105_l1 (rec : Rec) (_k : Nat) (v0 : Value) (v1 : Value) (n0 : Int) (ws0 : List Value) (h1 : H) : Option (Ex × List Value × H) :=
  asI .i64 (gv ws0 1) fun n1 =>
  ifB (lt n1 n0) (
    asK (gv ws0 1) fun n2 =>
    six v0 n2 3 fun b0 b1 =>
    ld Try.prog h1 56 b0 b1 fun v2 =>
    callsV rec h1 v1 [v2] fun v3 h2 =>
    asB v3 fun q0 =>
    ifB q0 (
      out .ret [gv ws0 1, gv ws0 1] h2) (
      asI .i64 (gv ws0 1) fun n3 =>
      out .normal [gv ws0 0, (.int .i64 (add .i64 n3 1))] h2)) (
    out (.exit 0) [gv ws0 0, gv ws0 1] h1)

noncomputable def f105 (rec : Rec) (k : Nat) (v0 : Value) (v1 : Value) (h0 : H) : Option (Value × H) :=
  len v0 fun n0 =>
  lp k (f105_l1 rec k v0 v1 n0) [(.int .i64 0), (.int .i64 0)] h0 fun e0 ws1 h3 =>
  onE e0 0 (
    some ((.int .i64 (-1)), h3)) (
    onR e0 (
      some (gv ws1 0, h3)))

theorem e105 (rec : Rec) (k : Nat) (v0 : Value) (v1 : Value) (h : H) : bodyT Try.prog E0 SC (XC Try.prog rec k) 105 (Value × H) [.opq v0, .opq v1] h (fun v h => some (v, h)) = f105 rec k v0 v1 h := by kernel_rfl

theorem t105 {k : Nat} {v0 : Value} {v1 : Value} {h h1 : H} {v : Value} (hh : f105 rn k v0 v1 h = some (v, h1)) : rn 105 #[v0, v1] h = some (v, trunc Try.prog h h1 v) :=
  run_of_bodyT (args := [.opq v0, .opq v1]) rfl ((e105 _ _ _ _ _).trans hh)

theorem p105 {k : Nat} {v0 : Value} {v1 : Value} {h h1 : H} {v : Value} (hh : f105 rn k v0 v1 h = some (v, h1)) (hp : plainO v = true) (x : Ext h h1) : rn 105 #[v0, v1] h = some (v, h) := by rw [t105 hh, trunc_pure hp x]

end Go.AM

end

section

/- What the small functions of calls answer. -/
namespace Go.AM
open Go.Proofs
/-- A call. -/
structure Kl where
  a : Int
  b : Int
  t : Int
deriving DecidableEq

def Kl.cells (c : Kl) : List Value := [iv c.a, iv c.b, iv c.t]

abbrev Kl.val (c : Kl) : Value := .agg c.cells.toArray

def Kl.has (c : Kl) (p : Int) : Bool := c.a == p || c.b == p

variable {k : Nat}
attribute [local simp] nx_eq nx_new nx_set blk_new blk_set asI_int asK_int asB_bool asP_ptr al_eq bx_eq len_slice onE_exit onE_ret onR_ret Value.cells d3 d29 d31 d56 d24 d59 d22 cell_new cell_set rd_new rd_set off eq lt le ifB
theorem s73 (c : Kl) (p : Int) (h : H) : rn 73 #[c.val, iv p] h = some (.bool (c.has p), h) :=
  p73 (k := 0) (h1 := h.new (.row c.cells 56 true)) (by simp [f73, Kl.val, Kl.cells, Kl.has]; by_cases h1 : c.a = p <;> simp [h1]) rfl (.new _ _)

theorem s74 (c : Kl) (p : Int) (h : H) : rn 74 #[c.val, iv p] h = some (iv (sub .i64 (add .i64 c.a c.b) p), h) :=
  p74 (k := 0) (h1 := h.new (.row c.cells 56 true)) (by simp [f74, Kl.val, Kl.cells]) rfl (.new _ _)

theorem s72 (n p : Int) (s : Value) (h : H) : rn 72 #[.agg #[iv n, s], iv p] h = some (.bool (decide (0 ≤ p ∧ p < n)), h) :=
  p72 (k := 0) (h1 := h.new (.row [iv n, s] 31 true)) (by simp [f72]; by_cases h1 : 0 ≤ p <;> simp [h1]) rfl (.new _ _)

theorem s42 (n p : Int) (s : Value) (h : H) : rn 42 #[.agg #[iv n, s], iv p] h = some (.bool (decide (0 ≤ p ∧ p < n)), h) :=
  p42 (k := 0) (h1 := h.new (.row [iv n, s] 24 true)) (by simp [f42]; by_cases h1 : 0 ≤ p <;> simp [h1]) rfl (.new _ _)

/-- Calls, as they stand in the staged forms. -/
theorem k73 {R : Type} (c : Kl) (p : Int) (h : H) (K : Value → H → Option R) : calls rn h 73 [.agg #[iv c.a, iv c.b, iv c.t], iv p] K = K (.bool (c.has p)) h := calls_eq (s73 c p h)

theorem k74 {R : Type} (c : Kl) (p : Int) (h : H) (K : Value → H → Option R) : calls rn h 74 [.agg #[iv c.a, iv c.b, iv c.t], iv p] K = K (iv (sub .i64 (add .i64 c.a c.b) p)) h := calls_eq (s74 c p h)

theorem k72 {R : Type} (n p : Int) (s : Value) (h : H) (K : Value → H → Option R) : calls rn h 72 [.agg #[iv n, s], iv p] K = K (.bool (decide (0 ≤ p ∧ p < n))) h := calls_eq (s72 n p s h)

theorem k42 {R : Type} (n p : Int) (s : Value) (h : H) (K : Value → H → Option R) : calls rn h 42 [.agg #[iv n, s], iv p] K = K (.bool (decide (0 ≤ p ∧ p < n))) h := calls_eq (s42 n p s h)

/-- Two calls that cannot be: at one time, with a person in common. -/
def clash (c x : Kl) : Bool := x.t == c.t && (x.has c.a || x.has c.b)

attribute [local simp] k73 k74 k72 k42 lt_ne lt_ne1
theorem s99 {h : H} {c x : Kl} {b : Nat} (hb : b < h.nx) (hc : h.blk b = some (.row c.cells 56 true)) : rn 99 #[x.val, pt b 0] h = some (.bool (clash c x), h) := by
  refine p99 (k := 0) (h1 := h.new (.row x.cells 56 true)) ?_ rfl (.new _ _)
  simp only [Kl.cells] at hc
  simp [f99, Kl.cells, clash, hb, cell_of hc]
  by_cases h1 : x.t = c.t <;> simp [h1]
  by_cases h2 : x.has c.a = true <;> simp [h2]

/-- The first element for which a function says yes. -/
theorem s105 {v0 v1 : Value} {h : H} {l : List Kl} (hs : SlR h 56 3 v0 (l.map Kl.cells)) {p : Kl → Bool} (hp : ∀ x ∈ l, callV rn v1 #[x.val] h = some (.bool (p x), h)) :
    ∃ r, rn 105 #[v0, v1] h = some (iv r, h) ∧ (le 0 r = l.any p) := by
  have hlen := hs.lt62
  rw [List.length_map] at hlen
  have hl := lp_same (F := f105_l1 rn (l.length + 1) v0 v1 l.length) (k := l.length + 1) (l := l) (h := h) (fun i (_ : Unit) => [iv 0, iv i])
    (fun i x s => if (!p x) = true then .inl s else .inr i) (fun _ _ => True) (fun _ => .ret) (fun i => [iv i, iv i]) 0 (fun _ => [iv 0, iv l.length]) (ws := [iv 0, iv 0]) (s0 := ()) rfl trivial (by omega) (by simp)
    (fun _ _ => by simp [f105_l1, gv, out])
    (by
      intro i c _ hc _
      have hi := (List.getElem?_eq_some_iff.1 hc).1
      refine ⟨fun _ _ => trivial, ?_⟩
      unfold f105_l1
      rw [show gv [iv 0, iv i] 1 = iv i from rfl, asI_int, lt_t (by omega), ifB_true, asK_int, hs.ldA ag56 sz56 (by omega) (x := c.cells) (by simp [hc]), callsV_some (hp c (List.mem_of_getElem? hc))]
      rw [asB_bool, asI_int, add64 (by omega) (by omega)]
      cases hpc : p c <;> simp [out, rnd, gv])
  rcases itL_all (ok := fun _ x => !p x) (g := fun i _ => i) (s0 := ()) l 0 with ⟨⟨r, h1⟩, j, x, hx, h2⟩ | ⟨h1, h2⟩
  · rw [h1] at hl
    refine ⟨r, p105 (k := l.length + 1) ?_ rfl (.refl _), ?_⟩
    · unfold f105
      rw [hs.len, List.length_map, lp_eq hl]
      rfl
    · rw [le_t (by omega)]
      symm
      rw [List.any_eq_true]
      exact ⟨x, List.mem_of_getElem? hx, by simpa using h2⟩
  · rw [h1] at hl
    refine ⟨-1, p105 (k := l.length + 1) ?_ rfl (.refl _), ?_⟩
    · unfold f105
      rw [hs.len, List.length_map, lp_eq hl.1]
      rfl
    · symm
      show _ = false
      rw [List.any_eq_false]
      intro x hx
      obtain ⟨j, hj, rfl⟩ := List.getElem_of_mem hx
      simpa using h2 j _ (List.getElem?_eq_getElem hj)

theorem s89 {v0 v1 : Value} {h : H} {l : List Kl} (hs : SlR h 56 3 v0 (l.map Kl.cells)) {p : Kl → Bool} (hp : ∀ x ∈ l, callV rn v1 #[x.val] h = some (.bool (p x), h)) :
    rn 89 #[v0, v1] h = some (.bool (l.any p), h) := by
  obtain ⟨r, e, hr⟩ := s105 hs hp
  refine p89 (k := 0) ?_ rfl (.refl _)
  unfold f89
  rw [calls_eq e, asI_int, hr]

/-- A call of a log of n people. -/
def okC (n : Int) (c : Kl) : Bool := decide (0 ≤ c.a ∧ c.a < n) && decide (0 ≤ c.b ∧ c.b < n) && !(c.a == c.b) && !decide (c.t < 1) && !decide (30 < c.t)

/-- May the call at place i follow those ahead of it? -/
def rowOk (n : Int) (l : List Kl) (i : Nat) : Bool :=
  match l[i]? with
  | none => true
  | some c => okC n c && !(decide (0 < i) && ((l[i - 1]?).any fun d => decide (c.t < d.t))) && !(l.take i).any (clash c)

def validP (n : Int) (l : List Kl) : Bool := !decide (n < 1) && !decide (7 < n) && !decide (24 < (l.length : Int)) && (List.range l.length).all (rowOk n l)

theorem under29 : Try.prog.underlying 29 = some (.slice 56) := by kernel_rfl

theorem s71 {n : Int} {sl : Value} {l : List Kl} {h : H} (hs : SlR h 56 3 sl (l.map Kl.cells)) : rn 71 #[.agg #[iv n, sl]] h = some (.bool (validP n l), h) := by
  have hlen := hs.lt62
  rw [List.length_map] at hlen
  have x1 : Ext h (h.new (.row [iv n, sl] 31 true)) := .new _ _
  have hb1 : (h.new (.row [iv n, sl] 31 true)).blk h.nx = some (.row [iv n, sl] 31 true) := blk_new_self _ _
  have hn1 : h.nx < (h.new (.row [iv n, sl] 31 true)).nx := Nat.lt_succ_self _
  have hs1 := hs.ext x1
  have hl : ∃ h', Ext (h.new (.row [iv n, sl] 31 true)) h' ∧ _ := lp_list (F := f71_l1 rn (l.length + 1) h sl l.length) (k := l.length + 1) (l := l) (h1 := h.new (.row [iv n, sl] 31 true)) (fun i (_ : Unit) => [.bool false, iv i])
    (fun i _ s => if rowOk n l i = true then .inl s else .inr i) (fun _ _ => True) (fun _ => .ret) (fun i => [.bool false, iv i]) 0 (fun _ => [.bool false, iv l.length]) (ws := [.bool false, iv 0]) (s0 := ()) rfl trivial (by omega) (by simp)
    (fun _ h2 _ _ => by simp [f71_l1, gv, out])
    (by
      intro i c _ h2 hc _ x2
      have hi := (List.getElem?_eq_some_iff.1 hc).1
      have hb2 := (x2.blk _ hn1).trans hb1
      have hn2 := Nat.lt_of_lt_of_le hn1 x2.nx
      have hs2 := hs1.ext x2
      have x3 := (Ext.refl h2).fresh 56 [iv 0, iv 0, iv 0] c.cells
      have hb3 := (x3.blk _ hn2).trans hb2
      have hcb := blk_fresh h2 56 [iv 0, iv 0, iv 0] c.cells
      have hn3 : h2.nx < (h2.fresh 56 [iv 0, iv 0, iv 0] c.cells).nx := Nat.lt_succ_self _
      have hs3 := hs2.ext x3
      obtain ⟨v', hv', hsli⟩ := hs3.take (i := (i : Int)) under29 sz56 (by omega) (by simp; omega)
      rw [Int.toNat_natCast, ← List.map_take] at hv'
      have h89 := s89 (v1 := .func (.func 99) #[] #[pt h2.nx 0]) (p := clash c) hv' (fun x _ => s99 hn3 hcb)
      refine ⟨fun _ _ => trivial, h2.fresh 56 [iv 0, iv 0, iv 0] c.cells, x3, ?_⟩
      unfold f71_l1
      rw [show gv [.bool false, iv i] 1 = iv i from rfl, show gv [.bool false, iv i] 0 = .bool false from rfl, asI_int, lt_t (by omega), ifB_true, asK_int, hs2.ldA ag56 sz56 (by omega) (x := c.cells) (by simp [hc])]
      rw [al_st (zs := [iv 0, iv 0, iv 0]) (xs := c.cells) sz56 rfl rfl]
      generalize h2.fresh 56 [iv 0, iv 0, iv 0] c.cells = h3 at *
      simp only [Kl.cells] at hcb
      have hprev : ∀ (K : Value → Option (Ex × List Value × H)), 0 < i → (AM.six sl (sub .i64 (i : Int) 1) 3 fun b2 b3 => (h3.cell b2 (b3 + 2)).bind K) = K (iv ((l[i - 1]?).getD c).t) := by
        intro K h0
        have h1 : i - 1 < l.length := by omega
        rw [sub64 (by omega) (by omega)]
        rw [hs3.cF (by omega) (x := (l[i-1]).cells) (by rw [show ((i : Int) - 1).toNat = i - 1 by omega]; simp [h1]) (y := iv (l[i-1]).t) rfl]
        simp [h1]
      have hcall : ∀ (K : Value → H → Option (Ex × List Value × H)), calls rn h3 89 [v', Value.func (Fn.func 99) #[] #[pt h2.nx 0]] K = K (.bool ((l.take i).any (clash c))) h3 := fun K => calls_eq h89
      by_cases h0 : 0 < i
      · simp [cell_of hb3, rd_of hb3, cell_of hcb, rd_of hcb, out, hsli, hcall, hprev, h0, hc, rnd]
        rw [add64 (by omega) (by omega)]
        have : l[i-1]? = some l[i-1] := List.getElem?_eq_getElem (by omega)
        grind [rowOk, okC]
      · simp [cell_of hb3, rd_of hb3, cell_of hcb, rd_of hcb, out, hsli, hcall, h0, hc, rnd]
        rw [add64 (by omega) (by omega)]
        grind [rowOk, okC])
  obtain ⟨h', x', hl⟩ := hl
  have hall : (∃ r, itL (σ := Unit) (ρ := Nat) (fun i (_ : Kl) s => if rowOk n l i = true then .inl s else .inr i) l 0 () = .inr r) ∧ (List.range l.length).all (rowOk n l) = false ∨
      itL (σ := Unit) (ρ := Nat) (fun i (_ : Kl) s => if rowOk n l i = true then .inl s else .inr i) l 0 () = .inl () ∧ (List.range l.length).all (rowOk n l) = true := by
    rcases itL_all (ok := fun i _ => rowOk n l i) (g := fun i _ => i) (s0 := ()) l 0 with ⟨h1, j, x, hx, h2⟩ | ⟨h1, h2⟩
    · exact .inl ⟨h1, by rw [List.all_eq_false]; exact ⟨j, List.mem_range.2 (List.getElem?_eq_some_iff.1 hx).1, by simpa using h2⟩⟩
    · refine .inr ⟨h1, ?_⟩
      rw [List.all_eq_true]
      intro j hj
      simpa using h2 j _ (List.getElem?_eq_getElem (List.mem_range.1 hj))
  have hF : ∃ h1, Ext h h1 ∧ f71 rn (l.length + 1) (.agg #[iv n, sl]) h = some (.bool (validP n l), h1) := by
    rcases hall with ⟨⟨r, h1⟩, h2⟩ | ⟨h1, h2⟩ <;> rw [h1] at hl
    · by_cases c : n < 1 ∨ 7 < n ∨ 24 < (l.length : Int)
      · refine ⟨_, x1, ?_⟩
        simp [f71, cell_of hb1, hs.len, validP]
        grind
      · refine ⟨h', x1.trans x', ?_⟩
        simp [f71, cell_of hb1, hs.len, validP, h2, lp_eq hl, gv]
        grind
    · by_cases c : n < 1 ∨ 7 < n ∨ 24 < (l.length : Int)
      · refine ⟨_, x1, ?_⟩
        simp [f71, cell_of hb1, hs.len, validP]
        grind
      · refine ⟨h', x1.trans x', ?_⟩
        simp [f71, cell_of hb1, hs.len, validP, h2, lp_eq hl.1, gv]
        grind
  obtain ⟨h1, e1, e2⟩ := hF
  exact p71 e2 rfl e1

end Go.AM

end

section

/- The log that the program is handed; copies of slices; slices that are equal. -/
namespace Go.AM
open Go.Proofs
variable {k : Nat} {R : Type}
attribute [local simp] nx_eq nx_new nx_set blk_new blk_set asI_int asK_int asB_bool asP_ptr al_eq bx_eq len_slice onE_exit onE_ret onR_ret Value.cells d3 d29 d31 d56 d24 d59 d22 cell_new cell_set rd_new rd_set off eq lt le ifB gv out eqF1 eqF2 eqF3 eqF4 eqF5 eqF6 eqF7 eqF8
theorem app29 : okApp Try.prog 29 56 3 = true := by kernel_rfl

theorem app25 : okApp Try.prog 25 3 1 = true := by kernel_rfl

theorem kbld31 (n : Int) (K : Value → Option R) : bld Try.prog 31 [(0, .int .i64 n)] K = K (.agg #[.int .i64 n, .slice none 0 0]) := bld_some (by kernel_rfl)

theorem kbld56 (a b t : Int) (K : Value → Option R) : bld Try.prog 56 [(0, .int .i64 a), (1, .int .i64 b), (2, .int .i64 t)] K = K (.agg #[.int .i64 a, .int .i64 b, .int .i64 t]) := bld_some (by kernel_rfl)

theorem bls29 (c : Kl) (h : H) : buildSlice Try.prog 29 1 [(0, .agg #[.int .i64 c.a, .int .i64 c.b, .int .i64 c.t])] h = some (.slice (some ⟨h.nx, 0, none⟩) 1 1, h.new (.row c.cells 56 true)) := by kernel_rfl

theorem bls25 (z : Int) (h : H) : buildSlice Try.prog 25 1 [(0, .int .i64 z)] h = some (.slice (some ⟨h.nx, 0, none⟩) 1 1, h.new (.row [iv z] 3 true)) := by kernel_rfl

attribute [local simp] kbld31 kbld56
theorem s18 {n : Int} {sl : Value} {l : List Kl} {h : H} (hs : SlR h 59 3 sl (l.map Kl.cells)) :
    ∃ sl' h', rn 18 #[.agg #[iv n, sl]] h = some (.agg #[iv n, sl'], h') ∧ Ext h h' ∧ SlR h' 56 3 sl' ((l.take 26).map Kl.cells) := by
  have hlen := hs.lt62
  rw [List.length_map] at hlen
  -- the heap ahead of the loop
  let h1 := h.new (.row [iv n, sl] 24 true)
  let h2 := h1.new (.row [.int .i64 0, .slice none 0 0] 31 true)
  let h4 := h2.fresh 31 [.int .i64 0, .slice none 0 0] [.int .i64 n, .slice none 0 0]
  have n1 : h1.nx = h.nx + 1 := rfl
  have n2 : h2.nx = h.nx + 2 := rfl
  have n4 : h4.nx = h.nx + 3 := rfl
  have x4 : Ext h h4 := (((Ext.refl h).new' _).new' _).fresh _ _ _
  have b0 : h4.blk h.nx = some (.row [iv n, sl] 24 true) := by simp [h4, h2, h1, H.fresh]
  have b1 : h4.blk (h.nx + 1) = some (.row [.int .i64 0, .slice none 0 0] 31 true) := by simp [h4, h2, h1, H.fresh]
  have b2 : h4.blk (h.nx + 2) = some (.row [.int .i64 n, .slice none 0 0] 31 true) := by simp [h4, h2, h1, H.fresh]
  obtain ⟨ws', h', hl, hx, hgn, hg1, sv, hg2, hap, rfl⟩ := lp_for (F := f18_l1 rn (l.length + 1) h2 sl l.length) (k := l.length + 1) (l := l) (fun _ _ (_ : Unit) => ())
    (fun i _ ws g => Ext h g ∧ h.nx + 3 ≤ g.nx ∧ g.blk (h.nx + 1) = some (.row [.int .i64 0, .slice none 0 0] 31 true) ∧
      ∃ sv, g.blk (h.nx + 2) = some (.row [iv n, sv] 31 true) ∧ AqR h.nx g 56 3 sv ((l.take (min i 26)).map Kl.cells) ∧ ws = [iv i]) 0 (ws := [iv 0]) (h := h4) (s0 := ())
    ⟨x4, by omega, b1, _, b2, .nil, rfl⟩ (by omega)
    (by
      rintro _ ws g ⟨hx, hgn, hg1, sv, hg2, hap, rfl⟩
      simp [f18_l1])
    (by
      rintro i c _ ws g hc ⟨hx, hgn, hg1, sv, hg2, hap, rfl⟩
      have hi := (List.getElem?_eq_some_iff.1 hc).1
      have y7 := (Ext.refl g).fresh 59 [iv 0, iv 0, iv 0] c.cells
      have hcb := blk_fresh g 59 [iv 0, iv 0, iv 0] c.cells
      have n7 : (g.fresh 59 [iv 0, iv 0, iv 0] c.cells).nx = g.nx + 1 := rfl
      unfold f18_l1
      rw [show gv [iv i] 0 = iv i from rfl, asI_int, lt_t (by omega), ifB_true, asK_int, (hs.ext hx).ldA ag59 sz59 (by omega) (x := c.cells) (by simp [hc])]
      rw [al_st (zs := [iv 0, iv 0, iv 0]) (xs := c.cells) sz59 rfl rfl]
      generalize g.fresh 59 [iv 0, iv 0, iv 0] c.cells = h7 at *
      have g1 := (y7.blk (h.nx + 1) (by omega)).trans hg1
      have g2 := (y7.blk (h.nx + 2) (by omega)).trans hg2
      have a7 := hap.ext y7
      simp only [Kl.cells] at hcb
      by_cases h26 : i < 26
      · obtain ⟨v', h9, e9, a9, n9, k9, b9, hb9, hb9'⟩ := a7.push app29 app29 (bls29 c) rfl rfl (by simp; omega) (by omega)
        have kb : ∀ b, b < h7.nx → h7.blk b ≠ some (.row ((l.take (min i 26)).map Kl.cells).flatten 56 true) → h9.blk b = h7.blk b := fun b hb hne => k9 b hb fun e => hne (a7.blkOf e).2.2
        have g1' := kb (h.nx + 1) (by omega) (by rw [g1]; simp)
        have g2' := kb (h.nx + 2) (by omega) (by rw [g2]; simp)
        rw [g1] at g1'
        rw [g2] at g2'
        have x9 : Ext h h9 := ⟨by have := hx.nx; omega, fun b hb => by
          rw [k9 b (by have := hx.nx; omega) (fun e => by have := (a7.blkOf e).1; omega)]
          exact (hx.trans y7).blk b hb⟩
        have hst : wrc 1 h9 (h.nx + 2) 1 v' = some (h9.set (h.nx + 2) (.row [iv n, v'] 31 true)) := by rw [wrc_one g2' a9.cells.1 a9.cells.2 (by simp)]; rfl
        refine ⟨[iv ((i : Int) + 1)], h9.set (h.nx + 2) (.row [iv n, v'] 31 true), ?_, x9.set (by omega) _, by rw [nx_set]; omega, ?_, v', blk_set_self _ _ _, ?_, rfl⟩
        · simp [cell_of hcb, n2, cell_of g2, h26, show (i : Int) < 26 by omega, e9, w29, hst]
          rw [add64 (by omega) (by omega)]
        · rw [blk_set_ne _ _ _ (by omega)]; exact g1'
        · have : (l.take (min (i + 1) 26)).map Kl.cells = (l.take (min i 26)).map Kl.cells ++ [c.cells] := by
            rw [show min (i + 1) 26 = i + 1 by omega, show min i 26 = i by omega, List.take_add_one, hc]
            simp
          rw [this]
          refine a9.keep (by rw [nx_set]; omega) fun b hb => blk_set_ne _ _ _ ?_
          rw [hb9] at hb; cases hb; omega
      · refine ⟨[iv ((i : Int) + 1)], h7, ?_, hx.trans y7, by omega, g1, sv, g2, ?_, rfl⟩
        · simp [show ¬ (i : Int) < 26 by omega]
          rw [add64 (by omega) (by omega)]
        · rw [show min (i + 1) 26 = min i 26 by omega]
          exact a7)
  have hfin : f18 rn (l.length + 1) (.agg #[iv n, sl]) h = some (.agg #[iv n, sv], h'.set (h.nx + 1) (.row [iv n, sv] 31 true)) := by
    have hst : wrc 2 h' (h.nx + 1) 0 (.agg #[iv n, sv]) = some (h'.set (h.nx + 1) (.row [iv n, sv] 31 true)) := by
      simp only [wrc, hg1]
      rw [if_pos ⟨rfl, by simp, by simp [Value.cells, hap.cells.2]; rfl⟩]
      rfl
    unfold f18
    rw [bx_eq, al_eq]
    rw [show nx (h.new (.row (Value.agg #[iv n, sl]).cells.toList 24 true)) = h.nx + 1 from rfl, d3]
    rw [show ((h.new (.row (Value.agg #[iv n, sl]).cells.toList 24 true)).new (.row [.int .i64 0, .slice none 0 0] 31 true)).cell (nx h) 0 = some (iv n) by simp]
    rw [Option.bind_some, asI_int, kbld31, al_st (zs := [.int .i64 0, .slice none 0 0]) (xs := [.int .i64 n, .slice none 0 0]) sz31 rfl rfl]
    rw [show (H.fresh ((h.new (.row (Value.agg #[iv n, sl]).cells.toList 24 true)).new (.row [.int .i64 0, .slice none 0 0] 31 true)) 31 [.int .i64 0, .slice none 0 0] [.int .i64 n, .slice none 0 0]) = h4 from rfl,
      show ((h.new (.row (Value.agg #[iv n, sl]).cells.toList 24 true)).new (.row [.int .i64 0, .slice none 0 0] 31 true)) = h2 from rfl, d22, nx_eq, cell_of b0]
    rw [show [iv n, sl][off 0 1]? = some sl from rfl, Option.bind_some, hs.len, List.length_map, lp_eq hl]
    simp [n2, rd_of hg2, w31, hst]
  refine ⟨sv, _, x18 hfin (by obtain ⟨x, y, z, hz⟩ := hap.isSl; rw [hz]; rfl), hx.set (by omega) _, ?_⟩
  rw [show min l.length 26 = min l.length 26 from rfl] at hap
  have : l.take (min l.length 26) = l.take 26 := by
    rcases Nat.le_total l.length 26 with h5 | h5
    · rw [show min l.length 26 = l.length by omega, List.take_of_length_le (by omega), List.take_of_length_le (by omega)]
    · rw [show min l.length 26 = 26 by omega]
  rw [this] at hap
  refine (hap.keep (by rw [nx_set]; omega) fun b hb => blk_set_ne _ _ _ ?_).slR
  intro e
  have := (hap.blkOf hb).2.2
  rw [e, hg1] at this
  simp at this

end Go.AM

end

section

/- Copies of slices; slices that are equal; the valid logs as the document tells them. -/
namespace Go.AM
open Go.Proofs
variable {k : Nat} {R : Type}
attribute [local simp] nx_eq nx_new nx_set blk_new blk_set asI_int asK_int asB_bool asP_ptr al_eq bx_eq len_slice onE_exit onE_ret onR_ret Value.cells d3 d29 d31 d56 d24 d59 d22 cell_new cell_set rd_new rd_set off eq lt le ifB gv out eqF1 eqF2 eqF3 eqF4 eqF5 eqF6 eqF7 eqF8
attribute [local simp] k73 k74 k72 k42 lt_ne lt_ne1
abbrev cellsI (l : List Int) : List (List Value) := l.map fun z => [iv z]

theorem under25 : Try.prog.underlying 25 = some (.slice 3) := by kernel_rfl

theorem bls25e (h : H) : buildSlice Try.prog 25 0 [] h = some (.slice (some ⟨h.nx, 0, none⟩) 0 0, h.new (.row [] 3 true)) := by kernel_rfl

theorem nil25 : binOp Try.prog .eql 25 (.slice none 0 0) (.slice none 0 0) = some (.bool true) := by kernel_rfl

theorem some25 (b o n c : Nat) : binOp Try.prog .eql 25 (.slice (some ⟨b, o, none⟩) n c) (.slice none 0 0) = some (.bool false) := by kernel_rfl

/-- Are two slices of numbers equal? -/
theorem s26 {v0 v1 : Value} {a b : List Int} {h : H} (ha : SlR h 3 1 v0 (cellsI a)) (hb : SlR h 3 1 v1 (cellsI b)) : rn 26 #[v0, v1] h = some (.bool (decide (a = b)), h) := by
  have hl := ha.lt62
  rw [List.length_map] at hl
  refine p26 (k := a.length + 1) (h1 := h) ?_ rfl (.refl _)
  by_cases hlen : a.length = b.length
  · have hl := lp_same (F := f26_l1 rn (a.length + 1) v0 v1 a.length) (k := a.length + 1) (l := a) (h := h) (fun i (_ : Unit) => [.bool false, iv i])
      (fun i x s => if decide (b[i]? = some x) = true then .inl s else .inr i) (fun _ _ => True) (fun _ => .ret) (fun i => [.bool false, iv i]) 0 (fun _ => [.bool false, iv a.length]) (ws := [.bool false, iv 0]) (s0 := ()) rfl trivial (by omega) (by simp)
      (fun _ _ => by simp [f26_l1])
      (by
        intro i x _ hx _
        have hi := (List.getElem?_eq_some_iff.1 hx).1
        refine ⟨fun _ _ => trivial, ?_⟩
        have hbi : b[i]? = some b[i] := List.getElem?_eq_getElem (by omega)
        have g1 : ∀ (K : Value → Option (Ex × List Value × H)), (six v0 (i : Int) 1 fun b o => (h.cell b o).bind K) = K (iv x) := fun K => ha.c0 (by omega) (x := [iv x]) (by simp [hx]) rfl K
        have g2 : ∀ (K : Value → Option (Ex × List Value × H)), (six v1 (i : Int) 1 fun b o => (h.cell b o).bind K) = K (iv b[i]) := fun K => hb.c0 (by omega) (x := [iv b[i]]) (by simp [hbi]) rfl K
        simp [f26_l1, show i < a.length by omega, g1, g2, hbi, rnd]
        rw [add64 (by omega) (by omega)]
        by_cases hxb : x = b[i]
        · simp [hxb]
        · simp [hxb, Ne.symm hxb])
    have hiff : a = b ↔ ∀ (j : Nat) (x : Int), a[j]? = some x → b[j]? = some x := by
      constructor
      · rintro rfl j x h; exact h
      · intro hh
        apply List.ext_getElem hlen
        intro j h1 h2
        have := hh j a[j] (List.getElem?_eq_getElem h1)
        rw [List.getElem?_eq_getElem h2] at this
        exact (Option.some.inj this).symm
    unfold f26
    simp only [ha.len, hb.len, List.length_map]
    rw [eq_t (by omega)]
    simp
    rcases itL_all (ok := fun i x => decide (b[i]? = some x)) (g := fun i _ => i) (s0 := ()) a 0 with ⟨⟨r, h1⟩, j, x, hx, h2⟩ | ⟨h1, h2⟩
    · rw [h1] at hl
      rw [lp_eq hl]
      simp
      rw [hiff]
      intro hh
      have := hh j x hx
      simp [this] at h2
    · rw [h1] at hl
      rw [lp_eq hl.1]
      simp
      rw [hiff]
      intro j x hx
      simpa using h2 j x hx
  · unfold f26
    simp only [ha.len, hb.len, List.length_map]
    rw [eq_f (by omega)]
    simp
    intro hab
    exact hlen (by rw [hab])

/-- Does a call ahead of c stand against it? -/
def against (c d : Kl) : Bool := decide (c.t < d.t) || clash c d

def rowR (n : Int) (l : List Kl) (i : Nat) (c : Kl) : Bool := okC n c && !(l.take i).any (against c)

def validR (n : Int) (l : List Kl) : Bool := !decide (n < 1) && !decide (7 < n) && !decide (24 < (l.length : Int)) && (List.range l.length).all fun i => (l[i]?).all (rowR n l i)

theorem under22 : Try.prog.underlying 22 = some (.slice 59) := by kernel_rfl

theorem f35_in {c : Kl} {sl : Value} {l : List Kl} {h2 h3 : H} {x0 : Value} (hs : SlR h3 59 3 sl (l.map Kl.cells)) (hk : l.length < k) (hn : h2.nx < h3.nx) (hc : h3.blk h2.nx = some (.row c.cells 59 true)) :
    ∃ h', Ext h3 h' ∧ ((l.any (against c) = false ∧ lpGo (f35_l2 rn k h2 sl l.length) k [x0, iv 0] h3 = some (.exit 2, [x0, iv l.length], h')) ∨
      (l.any (against c) = true ∧ ∃ i : Nat, lpGo (f35_l2 rn k h2 sl l.length) k [x0, iv 0] h3 = some (.ret, [.bool false, iv i], h'))) := by
  have hlen := hs.lt62
  rw [List.length_map] at hlen
  obtain ⟨h', x', hl⟩ := lp_list (F := f35_l2 rn k h2 sl l.length) (k := k) (l := l) (h1 := h3) (fun i (_ : Unit) => [x0, iv i])
    (fun i d s => if (!against c d) = true then .inl s else .inr i) (fun _ _ => True) (fun _ => .ret) (fun i => [.bool false, iv i]) 2 (fun _ => [x0, iv l.length]) (ws := [x0, iv 0]) (s0 := ()) rfl trivial hk (by simp)
    (fun _ g _ _ => by simp [f35_l2])
    (by
      intro i y _ h4 hy _ x4
      have hi := (List.getElem?_eq_some_iff.1 hy).1
      have x5 := (Ext.refl h4).fresh 59 [iv 0, iv 0, iv 0] y.cells
      have hyb := blk_fresh h4 59 [iv 0, iv 0, iv 0] y.cells
      refine ⟨fun _ _ => trivial, h4.fresh 59 [iv 0, iv 0, iv 0] y.cells, x5, ?_⟩
      have hcb := ((x4.trans x5).blk _ hn).trans hc
      unfold f35_l2
      rw [show gv [x0, iv i] 1 = iv i from rfl, show gv [x0, iv i] 0 = x0 from rfl, asI_int, lt_t (by omega), ifB_true, asK_int, (hs.ext x4).ldA ag59 sz59 (by omega) (x := y.cells) (by simp [hy])]
      rw [al_st (zs := [iv 0, iv 0, iv 0]) (xs := y.cells) sz59 rfl rfl]
      generalize h4.fresh 59 [iv 0, iv 0, iv 0] y.cells = h5 at *
      simp only [Kl.cells] at hcb hyb
      simp [cell_of hcb, cell_of hyb, rnd]
      rw [add64 (by omega) (by omega)]
      grind [against, clash, Kl.has])
  refine ⟨h', x', ?_⟩
  rcases itL_all (ok := fun _ d => !against c d) (g := fun i _ => i) (s0 := ()) l 0 with ⟨⟨r, h1⟩, j, x, hx, h2⟩ | ⟨h1, h2⟩
  · rw [h1] at hl
    exact .inr ⟨by rw [List.any_eq_true]; exact ⟨x, List.mem_of_getElem? hx, by simpa using h2⟩, r, hl⟩
  · rw [h1] at hl
    refine .inl ⟨?_, hl.1⟩
    rw [List.any_eq_false]
    intro x hx
    obtain ⟨j, hj, rfl⟩ := List.getElem_of_mem hx
    simpa using h2 j _ (List.getElem?_eq_getElem hj)

theorem s35' {n : Int} {sl : Value} {l : List Kl} {h : H} (hs : SlR h 59 3 sl (l.map Kl.cells)) : rn 35 #[.agg #[iv n, sl]] h = some (.bool (validR n l), h) := by
  have hlen := hs.lt62
  rw [List.length_map] at hlen
  have x1 : Ext h (h.new (.row [iv n, sl] 24 true)) := .new _ _
  have hb1 : (h.new (.row [iv n, sl] 24 true)).blk h.nx = some (.row [iv n, sl] 24 true) := blk_new_self _ _
  have hn1 : h.nx < (h.new (.row [iv n, sl] 24 true)).nx := Nat.lt_succ_self _
  have hs1 := hs.ext x1
  obtain ⟨h', x', hl⟩ := lp_list (F := f35_l1 rn (l.length + 1) h sl l.length) (k := l.length + 1) (l := l) (h1 := h.new (.row [iv n, sl] 24 true)) (fun i (_ : Unit) => [.bool false, iv i])
    (fun i c s => if rowR n l i c = true then .inl s else .inr i) (fun _ _ => True) (fun _ => .ret) (fun i => [.bool false, iv i]) 0 (fun _ => [.bool false, iv l.length]) (ws := [.bool false, iv 0]) (s0 := ()) rfl trivial (by omega) (by simp)
    (fun _ h2 _ _ => by simp [f35_l1])
    (by
      intro i c _ h2 hc _ x2
      have hi := (List.getElem?_eq_some_iff.1 hc).1
      have hb2 := (x2.blk _ hn1).trans hb1
      have hn2 := Nat.lt_of_lt_of_le hn1 x2.nx
      have hs2 := hs1.ext x2
      have x3 := (Ext.refl h2).fresh 59 [iv 0, iv 0, iv 0] c.cells
      have hb3 := (x3.blk _ hn2).trans hb2
      have hcb := blk_fresh h2 59 [iv 0, iv 0, iv 0] c.cells
      have hn3 : h2.nx < (h2.fresh 59 [iv 0, iv 0, iv 0] c.cells).nx := Nat.lt_succ_self _
      have hs3 := hs2.ext x3
      obtain ⟨v', hv', hsli⟩ := hs3.take (i := (i : Int)) under22 sz59 (by omega) (by simp; omega)
      rw [Int.toNat_natCast, ← List.map_take] at hv'
      obtain ⟨h5, x5, hin⟩ := f35_in (k := l.length + 1) (x0 := .bool false) hv' (by rw [List.length_take]; omega) hn3 hcb
      have hlt : ((l.take i).length : Int) = i := by rw [List.length_take]; omega
      rw [hlt] at hin
      refine ⟨fun _ _ => trivial, ?_⟩
      have hF : ∃ h', Ext h2 h' ∧ f35_l1 rn (l.length + 1) h sl l.length [.bool false, iv i] h2 = if rowR n l i c = true then some (.normal, [.bool false, iv ((i : Int) + 1)], h') else some (.ret, [.bool false, iv i], h') := by
        unfold f35_l1
        rw [show gv [.bool false, iv i] 1 = iv i from rfl, show gv [.bool false, iv i] 0 = .bool false from rfl, asI_int, lt_t (by omega), ifB_true, asK_int, hs2.ldA ag59 sz59 (by omega) (x := c.cells) (by simp [hc])]
        rw [al_st (zs := [iv 0, iv 0, iv 0]) (xs := c.cells) sz59 rfl rfl]
        generalize h2.fresh 59 [iv 0, iv 0, iv 0] c.cells = h3 at *
        simp only [Kl.cells] at hcb
        by_cases hok : okC n c = true
        · refine ⟨h5, x3.trans x5, ?_⟩
          have hlv : ∀ (K : Int → Option (Ex × List Value × H)), len v' K = K i := fun K => by rw [hv'.len, List.length_map, hlt]
          rcases hin with ⟨ha, hlp⟩ | ⟨ha, r, hlp⟩
          · simp [cell_of hb3, cell_of hcb, hsli, hlv, lp_eq hlp, rowR, ha, hok]
            rw [add64 (by omega) (by omega)]
            grind [okC]
          · simp [cell_of hb3, cell_of hcb, hsli, hlv, lp_eq hlp, rowR, ha, hok]
            grind [okC]
        · refine ⟨h3, x3, ?_⟩
          simp [cell_of hb3, cell_of hcb, hsli, rowR, hok]
          grind [okC]
      obtain ⟨h', x', e⟩ := hF
      refine ⟨h', x', ?_⟩
      rw [e]
      split <;> simp [rnd])
  have hall : (∃ r, itL (σ := Unit) (ρ := Nat) (fun i c s => if rowR n l i c = true then .inl s else .inr i) l 0 () = .inr r) ∧ ((List.range l.length).all fun i => (l[i]?).all (rowR n l i)) = false ∨
      itL (σ := Unit) (ρ := Nat) (fun i c s => if rowR n l i c = true then .inl s else .inr i) l 0 () = .inl () ∧ ((List.range l.length).all fun i => (l[i]?).all (rowR n l i)) = true := by
    rcases itL_all (ok := fun i c => rowR n l i c) (g := fun i _ => i) (s0 := ()) l 0 with ⟨h1, j, x, hx, h2⟩ | ⟨h1, h2⟩
    · refine .inl ⟨h1, ?_⟩
      rw [List.all_eq_false]
      exact ⟨j, List.mem_range.2 (List.getElem?_eq_some_iff.1 hx).1, by simpa [hx] using h2⟩
    · refine .inr ⟨h1, ?_⟩
      rw [List.all_eq_true]
      intro j hj
      have hj := List.mem_range.1 hj
      have := h2 j _ (List.getElem?_eq_getElem hj)
      simpa [hj] using this
  have hF : ∃ h1, Ext h h1 ∧ f35 rn (l.length + 1) (.agg #[iv n, sl]) h = some (.bool (validR n l), h1) := by
    by_cases c : n < 1 ∨ 7 < n ∨ 24 < (l.length : Int)
    · refine ⟨_, x1, ?_⟩
      simp [f35, cell_of hb1, hs.len, validR]
      grind
    · refine ⟨h', x1.trans x', ?_⟩
      rcases hall with ⟨⟨r, h1⟩, h2⟩ | ⟨h1, h2⟩ <;> rw [h1] at hl
      · simp [f35, cell_of hb1, hs.len, validR, h2, lp_eq hl]
        grind
      · simp [f35, cell_of hb1, hs.len, validR, h2, lp_eq hl.1]
        grind
  obtain ⟨h1, e1, e2⟩ := hF
  exact p35 e2 rfl e1

end Go.AM

end

section

/- The valid logs: what is known of them. -/
namespace Go.AM
open Go.Proofs
variable {k : Nat} {R : Type}
attribute [local simp] nx_eq nx_new nx_set blk_new blk_set asI_int asK_int asB_bool asP_ptr al_eq bx_eq len_slice onE_exit onE_ret onR_ret Value.cells d3 d29 d31 d56 d24 d59 d22 cell_new cell_set rd_new rd_set off eq lt le ifB gv out eqF1 eqF2 eqF3 eqF4 eqF5 eqF6 eqF7 eqF8
attribute [local simp] k73 k74 k72 k42 lt_ne lt_ne1
theorem valid_eq (n : Int) (l : List Kl) : validR n l = validP n l := by
  have key : (List.range l.length).all (fun i => (l[i]?).all (rowR n l i)) = (List.range l.length).all (rowOk n l) := by
    rw [Bool.eq_iff_iff, List.all_eq_true, List.all_eq_true]
    constructor
    · intro h i hi
      have hi' := List.mem_range.1 hi
      have := h i hi
      have hli : l[i]? = some l[i] := List.getElem?_eq_getElem hi'
      simp only [hli, Option.all_some] at this
      unfold rowR at this
      unfold rowOk
      rw [hli]
      simp only [Bool.and_eq_true, Bool.not_eq_true', List.any_eq_false] at this ⊢
      refine ⟨⟨this.1, ?_⟩, fun x hx hc => this.2 x hx (by simp [against, hc])⟩
      by_cases h0 : 0 < i
      · have hl1 : l[i - 1]? = some (l[i - 1]'(by omega)) := List.getElem?_eq_getElem (by omega)
        rw [hl1]
        have hm : l[i - 1]'(by omega) ∈ l.take i := List.mem_take_iff_getElem.2 ⟨i - 1, by omega, rfl⟩
        have h2 := this.2 _ hm
        simp only [against, Bool.or_eq_true, not_or, decide_eq_true_eq] at h2
        simp [h2.1]
      · simp [h0]
    · intro h i hi
      have hi' := List.mem_range.1 hi
      have hsort : ∀ j, j < l.length → ∀ i', i' < j → (l.getD i' ⟨0, 0, 0⟩).t ≤ (l.getD j ⟨0, 0, 0⟩).t := by
        intro j
        induction j with
        | zero => intro _ i' hi'; omega
        | succ j ih =>
          intro hj i' hi'
          have h1 := h (j + 1) (List.mem_range.2 hj)
          unfold rowOk at h1
          rw [List.getElem?_eq_getElem hj] at h1
          simp only [Bool.and_eq_true, Bool.not_eq_true'] at h1
          have h2 := h1.1.2
          rw [show j + 1 - 1 = j from rfl, List.getElem?_eq_getElem (show j < l.length by omega)] at h2
          simp only [Option.any_some, Nat.zero_lt_succ, decide_true, Bool.true_and, decide_eq_false_iff_not, Int.not_lt] at h2
          have e1 : l.getD j ⟨0, 0, 0⟩ = l[j] := by rw [List.getD_eq_getElem?_getD, List.getElem?_eq_getElem (show j < l.length by omega)]; rfl
          have e2 : l.getD (j + 1) ⟨0, 0, 0⟩ = l[j + 1] := by rw [List.getD_eq_getElem?_getD, List.getElem?_eq_getElem hj]; rfl
          rcases Nat.lt_or_ge i' j with h3 | h3
          · have := ih (by omega) i' h3
            rw [e1] at this
            rw [e2]
            omega
          · obtain rfl : i' = j := by omega
            rw [e1, e2]
            exact h2
      have := h i hi
      have hli : l[i]? = some l[i] := List.getElem?_eq_getElem hi'
      unfold rowOk at this
      simp only [hli, Option.all_some]
      unfold rowR
      rw [hli] at this
      simp only [Bool.and_eq_true, Bool.not_eq_true', List.any_eq_false] at this ⊢
      refine ⟨this.1.1, fun x hx hc => ?_⟩
      simp only [against, Bool.or_eq_true, decide_eq_true_eq] at hc
      rcases hc with hc | hc
      · obtain ⟨j, hj, rfl⟩ := List.mem_take_iff_getElem.1 hx
        have := hsort i hi' j (by omega)
        rw [List.getD_eq_getElem?_getD, List.getD_eq_getElem?_getD, hli, List.getElem?_eq_getElem (show j < l.length by omega)] at this
        simp only [Option.getD_some] at this
        omega
      · exact this.2 x hx hc
  unfold validR validP
  rw [key]

/-- The other person of a call. -/
def Kl.oth (c : Kl) (p : Int) : Int := c.a + c.b - p

theorem okC_iff {n : Int} {c : Kl} : okC n c = true ↔ (0 ≤ c.a ∧ c.a < n) ∧ (0 ≤ c.b ∧ c.b < n) ∧ c.a ≠ c.b ∧ 1 ≤ c.t ∧ c.t ≤ 30 := by
  simp only [okC, Bool.and_eq_true, decide_eq_true_eq, Bool.not_eq_true', beq_eq_false_iff_ne, decide_eq_false_iff_not, Int.not_lt, ne_eq]
  constructor
  · rintro ⟨⟨⟨⟨h1, h2⟩, h3⟩, h4⟩, h5⟩; exact ⟨h1, h2, h3, h4, h5⟩
  · rintro ⟨h1, h2, h3, h4, h5⟩; exact ⟨⟨⟨⟨h1, h2⟩, h3⟩, h4⟩, h5⟩

theorem validP_ok {n : Int} {l : List Kl} (h : validP n l = true) : 1 ≤ n ∧ n ≤ 7 ∧ l.length ≤ 24 ∧ ∀ (i : Nat) (c : Kl), l[i]? = some c → okC n c = true := by
  simp only [validP, Bool.and_eq_true, Bool.not_eq_true', decide_eq_false_iff_not, Int.not_lt, List.all_eq_true, List.mem_range] at h
  obtain ⟨⟨⟨h1, h2⟩, h3⟩, h4⟩ := h
  refine ⟨h1, h2, by omega, fun i c hc => ?_⟩
  have hi : i < l.length := (List.getElem?_eq_some_iff.1 hc).1
  have := h4 i hi
  unfold rowOk at this
  rw [hc] at this
  simp only [Bool.and_eq_true] at this
  exact this.1.1

theorem oth_ok {n : Int} {c : Kl} {p : Int} (h : okC n c = true) (hp : c.has p = true) : 0 ≤ c.oth p ∧ c.oth p < n ∧ c.oth p ≠ p := by
  obtain ⟨h1, h2, h3, _⟩ := okC_iff.1 h
  simp only [Kl.has, Bool.or_eq_true, beq_iff_eq] at hp
  unfold Kl.oth
  rcases hp with hp | hp <;> omega

theorem oth_calc {n : Int} {c : Kl} {p : Int} (hn : n ≤ 1000) (h : okC n c = true) (hp : c.has p = true) : sub .i64 (add .i64 c.a c.b) p = c.oth p := by
  obtain ⟨h1, h2, h3, _⟩ := okC_iff.1 h
  have := oth_ok h hp
  unfold Kl.oth at this ⊢
  rw [add64 (by omega) (by omega), sub64 (by omega) (by omega)]

theorem s35 {n : Int} {sl : Value} {l : List Kl} {h : H} (hs : SlR h 59 3 sl (l.map Kl.cells)) : rn 35 #[.agg #[iv n, sl]] h = some (.bool (validP n l), h) := by
  rw [s35' hs, valid_eq]

theorem validP_sorted {n : Int} {l : List Kl} (h : validP n l = true) {i j : Nat} {c d : Kl} (hij : i < j) (hd : l[i]? = some d) (hc : l[j]? = some c) : d.t ≤ c.t ∧ clash c d = false := by
  rw [← valid_eq] at h
  simp only [validR, Bool.and_eq_true, List.all_eq_true, List.mem_range] at h
  have hj : j < l.length := (List.getElem?_eq_some_iff.1 hc).1
  have := h.2 j hj
  simp only [hc, Option.all_some] at this
  unfold rowR at this
  simp only [Bool.and_eq_true, Bool.not_eq_true', List.any_eq_false] at this
  obtain ⟨hi, e⟩ := List.getElem?_eq_some_iff.1 hd
  have hm : d ∈ l.take j := List.mem_take_iff_getElem.2 ⟨i, by omega, e⟩
  have h2 := this.2 d hm
  simp only [against, Bool.or_eq_true, not_or, decide_eq_true_eq, Int.not_lt, Bool.not_eq_true] at h2
  exact h2

theorem validP_take {n : Int} {l : List Kl} : validP n (l.take 26) = validP n l := by
  by_cases hl : l.length ≤ 26
  · rw [List.take_of_length_le hl]
  · have h1 : validP n l = false := by simp [validP, show 24 < (l.length : Int) by omega]
    have h2 : validP n (l.take 26) = false := by
      simp [validP, List.length_take, show 24 < min 26 l.length by omega]
      intro _ _ h
      omega
    rw [h1, h2]

/-- Two different people of a valid log. -/
def pairP (n : Int) (l : List Kl) (s t : Int) : Bool := validP n l && decide (0 ≤ s ∧ s < n) && decide (0 ≤ t ∧ t < n) && !(s == t)

theorem pairP_take {n s t : Int} {l : List Kl} : pairP n (l.take 26) s t = pairP n l s t := by
  unfold pairP; rw [validP_take]

theorem s21 {n s t : Int} {sl : Value} {l : List Kl} {h : H} (hs : SlR h 59 3 sl (l.map Kl.cells)) : rn 21 #[.agg #[iv n, sl], iv s, iv t] h = some (.bool (pairP n l s t), h) := by
  have x1 : Ext h (h.new (.row [iv n, sl] 24 true)) := .new _ _
  have c1 := fun (K : Value → H → Option (Value × H)) => calls_eq (K := K) (xs := [_]) (s35 (n := n) (hs.ext x1))
  refine p21 (k := 0) (h1 := h.new (.row [iv n, sl] 24 true)) ?_ rfl x1
  simp [f21, c1, pairP]
  grind

end Go.AM

end

section

/- News. -/
namespace Go.AM
open Go.Proofs
variable {k : Nat} {R : Type}
attribute [local simp] nx_eq nx_new nx_set blk_new blk_set asI_int asK_int asB_bool asP_ptr al_eq bx_eq len_slice onE_exit onE_ret onR_ret Value.cells d3 d29 d31 d56 d24 d59 d22 w3 cell_new cell_set rd_new rd_set off eq lt le ifB gv out eqF1 eqF2 eqF3 eqF4 eqF5 eqF6 eqF7 eqF8
attribute [local simp] k73 k74 k72 k42
/-- The set of one person. -/
def bit (p : Nat) : Int := shl .i64 1 p

/-- What everybody has at first. -/
def ownP (n : Nat) : List Int := (List.range n).map bit

/-- A call is made. -/
def hearP (news : List Int) (c : Kl) : List Int :=
  let both := AM.or .i64 (news.getD c.a.toNat 0) (news.getD c.b.toNat 0)
  (news.set c.a.toNat both).set c.b.toNat both

/-- Does somebody hear something? -/
def freshP (news : List Int) (c : Kl) : Bool :=
  let both := AM.or .i64 (news.getD c.a.toNat 0) (news.getD c.b.toNat 0)
  !(news.getD c.a.toNat 0 == both) || !(news.getD c.b.toNat 0 == both)

theorem hearP_len (news : List Int) (c : Kl) : (hearP news c).length = news.length := by simp [hearP]

theorem s77 {n : Int} {sl : Value} {h : H} (hn : 0 ≤ n) (hm : n < 1000) : ∃ v h', rn 77 #[.agg #[iv n, sl]] h = some (v, h') ∧ Ext h h' ∧ AqR h.nx h' 3 1 v (cellsI (ownP n.toNat)) := by
  obtain ⟨m, rfl⟩ := Int.eq_ofNat_of_zero_le hn
  have x1 : Ext h (h.new (.row [iv m, sl] 31 true)) := .new _ _
  obtain ⟨ws', h', hl, hx, sv, hap, rfl⟩ := lp_for (F := f77_l1 rn (m + 1) m) (k := m + 1) (l := List.range m) (fun _ _ (_ : Unit) => ())
    (fun i _ ws g => Ext h g ∧ ∃ sv, AqR h.nx g 3 1 sv (cellsI (ownP i)) ∧ ws = [sv, iv i]) 0 (ws := [.slice none 0 0, iv 0]) (h := h.new (.row [iv m, sl] 31 true)) (s0 := ())
    ⟨x1, _, .nil, rfl⟩ (by simp)
    (by
      rintro _ ws g ⟨hx, sv, hap, rfl⟩
      simp [f77_l1])
    (by
      rintro i c _ ws g hc ⟨hx, sv, hap, rfl⟩
      have hi : i < m := by simpa using (List.getElem?_eq_some_iff.1 hc).1
      obtain ⟨v', h9, e9, a9, n9, k9, b9, hb9, hb9'⟩ := hap.push app25 app25 (bls25 (bit i)) rfl rfl (by simp [ownP]; omega) hx.nx
      refine ⟨[v', iv ((i : Int) + 1)], h9, ?_, ⟨by have := hx.nx; omega, fun b hb => ?_⟩, v', ?_, rfl⟩
      · simp only [f77_l1, gv, List.getD_cons_succ, List.getD_cons_zero]
        rw [asI_int, lt_t (by omega), ifB_true, asK_int, nn_ge (by omega)]
        simp only [bit] at e9
        rw [e9, asI_int, add64 (by omega) (by omega)]
        rfl
      · rw [k9 b (by have := hx.nx; omega) (fun e => by have := (hap.blkOf e).1; omega)]
        exact hx.blk b hb
      · rw [show cellsI (ownP (i + 1)) = cellsI (ownP i) ++ [[iv (bit i)]] by simp [ownP, List.range_succ]]
        exact a9)
  rw [List.length_range] at hl hap
  refine ⟨sv, h', x77 (k := m + 1) ?_ ?_, hx, ?_⟩
  · simp [f77, lp_eq hl]
  · obtain ⟨x, y, z, rfl⟩ := hap.isSl; rfl
  · simpa using hap

theorem s78 {h : H} {b : Nat} {v : Value} {news : List Int} {c : Kl} (hv : IA h b v news) (ha : 0 ≤ c.a ∧ c.a < news.length) (hb : 0 ≤ c.b ∧ c.b < news.length) :
    ∃ h', rn 78 #[v, c.val] h = some (.bool (freshP news c), h') ∧ h.nx ≤ h'.nx ∧ IA h' b v (hearP news c) ∧ ∀ i, i < h.nx → i ≠ b → h'.blk i = h.blk i := by
  have x1 := Ext.new h (.row c.cells 56 true)
  have hv1 := hv.ext x1
  have hbn := hv.lt
  have hA : news[c.a.toNat]? = some (news.getD c.a.toNat 0) := by simp [show c.a.toNat < news.length by omega]
  have hB : news[c.b.toNat]? = some (news.getD c.b.toNat 0) := by simp [show c.b.toNat < news.length by omega]
  generalize hAv : news.getD c.a.toNat 0 = A at *
  generalize hBv : news.getD c.b.toNat 0 = B at *
  have gA : ∀ (K : Value → Option (Value × H)), (six v c.a 1 fun b o => ((h.new (.row c.cells 56 true)).cell b o).bind K) = K (iv A) := fun K => hv1.get ha.1 hA K
  have gB : ∀ (K : Value → Option (Value × H)), (six v c.b 1 fun b o => ((h.new (.row c.cells 56 true)).cell b o).bind K) = K (iv B) := fun K => hv1.get hb.1 hB K
  have pA : ∀ (K : Nat → Nat → Option (Value × H)), six v c.a 1 K = K b c.a.toNat := fun K => hv1.put ha.1 (by omega) K
  have pB : ∀ (K : Nat → Nat → Option (Value × H)), six v c.b 1 K = K b c.b.toNat := fun K => hv1.put hb.1 (by omega) K
  have w1 := hv1.wrc (i := c.a.toNat) (by omega) (AM.or .i64 A B)
  have hv2 := hv1.set c.a.toNat (AM.or .i64 A B)
  have w2 := hv2.wrc (i := c.b.toNat) (by rw [List.length_set]; omega) (AM.or .i64 A B)
  have hv3 := hv2.set c.b.toNat (AM.or .i64 A B)
  have hck : fre h.nx (h.nx + 1) (0 + 1) 1 b c.a.toNat 1 = true := by
    simp only [fre, Bool.and_eq_true, decide_eq_true_eq]; omega
  have hcell : ∀ o, h.cell b o = (news.map iv)[o]? := fun o => cell_of hv.row
  have hF : f78 rn 0 v c.val h = some (.bool (freshP news c), (((h.new (.row c.cells 56 true)).set b (.row ((news.set c.a.toNat (AM.or .i64 A B)).map iv) 3 true)).set b (.row (((news.set c.a.toNat (AM.or .i64 A B)).set c.b.toNat (AM.or .i64 A B)).map iv) 3 true))) := by
    simp only [Kl.cells, List.map_set] at *
    simp [f78, pA, pB, hcell, hA, hB, w1, w2, hck, ck, freshP, hAv, hBv, Kl.cells, lt_ne hbn]
    generalize AM.or .i64 A B = C
    by_cases h1 : A = C <;> by_cases h2 : B = C <;> simp [h1, h2]
  have hn3 : h.nx ≤ (((h.new (.row c.cells 56 true)).set b (.row ((news.set c.a.toNat (AM.or .i64 A B)).map iv) 3 true)).set b (.row (((news.set c.a.toNat (AM.or .i64 A B)).set c.b.toNat (AM.or .i64 A B)).map iv) 3 true)).nx := Nat.le_succ _
  obtain ⟨q1, _, q2⟩ := trunc_blk (P := Try.prog) (v := .bool (freshP news c)) hn3
  refine ⟨_, t78 hF, q1, ?_, fun i hi hib => ?_⟩
  · have : hearP news c = (news.set c.a.toNat (AM.or .i64 A B)).set c.b.toNat (AM.or .i64 A B) := by unfold hearP; simp only [hAv, hBv]
    rw [this]
    exact ⟨hv3.val, Nat.lt_of_lt_of_le hbn q1, (q2 b hbn).trans hv3.row⟩
  · rw [q2 i hi, blk_set_ne _ _ _ hib, blk_set_ne _ _ _ hib, blk_new_ne _ _ (by omega)]

end Go.AM

end

section

/- News and Idle, as the program tells them. -/
namespace Go.AM
open Go.Proofs
variable {k : Nat} {R : Type}
attribute [local simp] nx_eq nx_new nx_set blk_new blk_set asI_int asK_int asB_bool asP_ptr al_eq bx_eq len_slice onE_exit onE_ret onR_ret Value.cells d3 d29 d31 d56 d24 d59 d22 w3 cell_new cell_set rd_new rd_set off eq lt le ifB gv out eqF1 eqF2 eqF3 eqF4 eqF5 eqF6 eqF7 eqF8
def newsP (n : Nat) (l : List Kl) : List Int := l.foldl hearP (ownP n)

theorem newsP_len (n : Nat) (l : List Kl) : (newsP n l).length = n := by
  have : ∀ (l : List Kl) (x : List Int), (l.foldl hearP x).length = x.length := by
    intro l
    induction l with
    | nil => intro x; rfl
    | cons c l ih => intro x; rw [List.foldl_cons, ih, hearP_len]
  rw [newsP, this]
  simp [ownP]

theorem ok_range {n : Int} {l : List Kl} (hv : validP n l = true) {i : Nat} {c : Kl} (hc : l[i]? = some c) : (0 ≤ c.a ∧ c.a < n) ∧ (0 ≤ c.b ∧ c.b < n) := by
  have := okC_iff.1 ((validP_ok hv).2.2.2 i c hc)
  exact ⟨this.1, this.2.1⟩

/-- What a call reads of its log. -/
theorem k71 {n : Int} {sl : Value} {l : List Kl} {h : H} (hs : SlR h 56 3 sl (l.map Kl.cells)) (K : Value → H → Option R) : calls rn h 71 [.agg #[iv n, sl]] K = K (.bool (validP n l)) h := calls_eq (s71 hs)

theorem s37_bad {n : Int} {sl : Value} {l : List Kl} {h : H} (hs : SlR h 56 3 sl (l.map Kl.cells)) (hv : validP n l = false) : ∃ h', rn 37 #[.agg #[iv n, sl]] h = some (.tuple #[.slice none 0 0, iv 2], h') ∧ Ext h h' := by
  have x1 : Ext h (h.new (.row [iv n, sl] 31 true)) := .new _ _
  refine ⟨h.new (.row [iv n, sl] 31 true), x37 (k := 0) ?_ rfl, x1⟩
  simp [f37, k71 (hs.ext x1), hv]

theorem s39_bad {n : Int} {sl : Value} {l : List Kl} {h : H} (hs : SlR h 56 3 sl (l.map Kl.cells)) (hv : validP n l = false) : ∃ h', rn 39 #[.agg #[iv n, sl]] h = some (.tuple #[.slice none 0 0, iv 2], h') ∧ Ext h h' := by
  have x1 : Ext h (h.new (.row [iv n, sl] 31 true)) := .new _ _
  refine ⟨h.new (.row [iv n, sl] 31 true), x39 (k := 0) ?_ rfl, x1⟩
  simp [f39, k71 (hs.ext x1), hv]

theorem s37 {n : Int} {sl : Value} {l : List Kl} {h : H} (hs : SlR h 56 3 sl (l.map Kl.cells)) (hv : validP n l = true) :
    ∃ v h', rn 37 #[.agg #[iv n, sl]] h = some (.tuple #[v, iv 0], h') ∧ Ext h h' ∧ SlR h' 3 1 v (cellsI (newsP n.toNat l)) := by
  obtain ⟨hn1, hn7, hl24, hok⟩ := validP_ok hv
  have x1 : Ext h (h.new (.row [iv n, sl] 31 true)) := .new _ _
  have hs1 := hs.ext x1
  obtain ⟨v4, h3, e77, x3, a3⟩ := s77 (n := n) (sl := sl) (h := h.new (.row [iv n, sl] 31 true)) (by omega) (by omega)
  obtain ⟨b, hlo, _, hia⟩ := a3.ia (by simp [ownP]; omega)
  have x03 := x1.trans x3
  have hb3 : h3.blk h.nx = some (.row [iv n, sl] 31 true) := (x3.blk _ (Nat.lt_succ_self _)).trans (blk_new_self _ _)
  have hbn : h.nx < b := by rw [nx_new] at hlo; omega
  obtain ⟨ws', h', hl, hx, hiaN, hlen, rfl⟩ := lp_for (F := f37_l1 rn (l.length + 1) v4 sl l.length) (k := l.length + 1) (l := l) (fun _ c (s : List Int) => hearP s c)
    (fun i s ws g => Ext h g ∧ IA g b v4 s ∧ s.length = n.toNat ∧ ws = [iv i]) 0 (ws := [iv 0]) (h := h3) (s0 := ownP n.toNat)
    ⟨x03, hia, by simp [ownP], rfl⟩ (by omega)
    (by
      rintro s ws g ⟨hx, hi, hlen, rfl⟩
      simp [f37_l1])
    (by
      rintro i c s ws g hc ⟨hx, hi, hlen, rfl⟩
      have hil := (List.getElem?_eq_some_iff.1 hc).1
      obtain ⟨ha, hb⟩ := ok_range hv hc
      have y7 := (Ext.refl g).fresh 56 [iv 0, iv 0, iv 0] c.cells
      have hcb := blk_fresh g 56 [iv 0, iv 0, iv 0] c.cells
      have n7 : (g.fresh 56 [iv 0, iv 0, iv 0] c.cells).nx = g.nx + 1 := rfl
      obtain ⟨h8, e8, n8, i8, f8⟩ := s78 (c := c) (hi.ext y7) (by rw [hlen]; omega) (by rw [hlen]; omega)
      have hbl := hi.lt
      refine ⟨[iv ((i : Int) + 1)], h8, ?_, ⟨by have := hx.nx; omega, fun q hq => ?_⟩, i8, by rw [hearP_len]; exact hlen, rfl⟩
      · unfold f37_l1
        rw [show gv [iv i] 0 = iv i from rfl, asI_int, lt_t (by omega), ifB_true, asK_int, (hs.ext hx).ldA ag56 sz56 (by omega) (x := c.cells) (by simp [hc])]
        rw [al_st (zs := [iv 0, iv 0, iv 0]) (xs := c.cells) sz56 rfl rfl, nx_eq, d56, rd_all (n := 3) hcb rfl]
        rw [Option.bind_some, calls_eq (show rn 78 [v4, Value.agg c.cells.toArray].toArray _ = _ from e8), asB_bool, asI_int, add64 (by omega) (by omega)]
        rfl
      · rw [f8 q (by have := hx.nx; omega) (by omega), y7.blk q (by have := hx.nx; omega), hx.blk q hq])
  rw [foldI_foldl] at hiaN
  refine ⟨v4, h', x37 (k := l.length + 1) ?_ (by obtain ⟨c, hc, _⟩ := hiaN.val; rw [hc]; rfl), hx, hiaN.slR⟩
  have c77 := fun (K : Value → H → Option (Value × H)) => calls_eq (K := K) (xs := [_]) e77
  simp [f37, k71 hs1, hv, c77, cell_of hb3, hs.len, lp_eq hl]

/-- The calls in which nobody hears anything. -/
def idleG (i : Nat) (c : Kl) (s : List Int × List Int) : List Int × List Int := (hearP s.1 c, if freshP s.1 c = true then s.2 else s.2 ++ [(i : Int)])

def idleP (n : Nat) (l : List Kl) : List Int := (foldI idleG l 0 (ownP n, [])).2

theorem s39 {n : Int} {sl : Value} {l : List Kl} {h : H} (hs : SlR h 56 3 sl (l.map Kl.cells)) (hv : validP n l = true) :
    ∃ v h', rn 39 #[.agg #[iv n, sl]] h = some (.tuple #[v, iv 0], h') ∧ Ext h h' ∧ SlR h' 3 1 v (cellsI (idleP n.toNat l)) := by
  obtain ⟨hn1, hn7, hl24, hok⟩ := validP_ok hv
  have x1 : Ext h (h.new (.row [iv n, sl] 31 true)) := .new _ _
  have hs1 := hs.ext x1
  obtain ⟨v4, h3, e77, x3, a3⟩ := s77 (n := n) (sl := sl) (h := h.new (.row [iv n, sl] 31 true)) (by omega) (by omega)
  obtain ⟨b, hlo, _, hia⟩ := a3.ia (by simp [ownP]; omega)
  have x03 := x1.trans x3
  have hb3 : h3.blk h.nx = some (.row [iv n, sl] 31 true) := (x3.blk _ (Nat.lt_succ_self _)).trans (blk_new_self _ _)
  have hbn : h.nx < b := by rw [nx_new] at hlo; omega
  obtain ⟨ws', h', hl, hx, hiaN, hlen, ho, sv, hap, hne, rfl⟩ := lp_for (F := f39_l1 rn (l.length + 1) v4 sl l.length) (k := l.length + 1) (l := l) idleG
    (fun i s ws g => Ext h g ∧ IA g b v4 s.1 ∧ s.1.length = n.toNat ∧ s.2.length ≤ i ∧ ∃ sv, AqR h.nx g 3 1 sv (cellsI s.2) ∧ blkOf sv ≠ some b ∧ ws = [sv, iv i]) 0 (ws := [.slice none 0 0, iv 0]) (h := h3) (s0 := (ownP n.toNat, []))
    ⟨x03, hia, by simp [ownP], Nat.le_refl _, _, .nil, by simp [blkOf], rfl⟩ (by omega)
    (by
      rintro s ws g ⟨hx, hi, hlen, ho, sv, hap, hne, rfl⟩
      simp [f39_l1])
    (by
      rintro i c ⟨s1, s2⟩ ws g hc ⟨hx, hi, hlen, ho, sv, hap, hne, rfl⟩
      simp only at hi hlen ho hap
      have hil := (List.getElem?_eq_some_iff.1 hc).1
      obtain ⟨ha, hb⟩ := ok_range hv hc
      have y7 := (Ext.refl g).fresh 56 [iv 0, iv 0, iv 0] c.cells
      have hcb := blk_fresh g 56 [iv 0, iv 0, iv 0] c.cells
      have n7 : (g.fresh 56 [iv 0, iv 0, iv 0] c.cells).nx = g.nx + 1 := rfl
      obtain ⟨h8, e8, n8, i8, f8⟩ := s78 (c := c) (hi.ext y7) (by rw [hlen]; omega) (by rw [hlen]; omega)
      have hbl := hi.lt
      have x8 : Ext h h8 := ⟨by have := hx.nx; omega, fun q hq => by rw [f8 q (by have := hx.nx; omega) (by omega), y7.blk q (by have := hx.nx; omega), hx.blk q hq]⟩
      have a8 : AqR h.nx h8 3 1 sv (cellsI s2) := hap.keep (by omega) fun q hq => by
        have := (hap.blkOf hq).2.1
        rw [f8 q (by omega) (fun e => hne (e ▸ hq)), y7.blk q this]
      have start : f39_l1 rn (l.length + 1) v4 sl l.length [sv, iv i] g = (if freshP s1 c = true then some (.normal, [sv, iv ((i : Int) + 1)], h8) else
          bls Try.prog h8 25 1 [(0, iv i)] fun v9 h8 => app Try.prog h8 25 25 sv v9 fun v10 h9 => some (.normal, [v10, iv ((i : Int) + 1)], h9)) := by
        unfold f39_l1
        rw [show gv [sv, iv i] 1 = iv i from rfl, show gv [sv, iv i] 0 = sv from rfl, asI_int, lt_t (by omega), ifB_true, asK_int, (hs.ext hx).ldA ag56 sz56 (by omega) (x := c.cells) (by simp [hc])]
        rw [al_st (zs := [iv 0, iv 0, iv 0]) (xs := c.cells) sz56 rfl rfl, nx_eq, d56, rd_all (n := 3) hcb rfl]
        rw [Option.bind_some, calls_eq (show rn 78 [v4, Value.agg c.cells.toArray].toArray _ = _ from e8), asB_bool]
        cases freshP s1 c with
        | true => simp; rw [add64 (by omega) (by omega)]
        | false => simp; rw [add64 (by omega) (by omega)]
      rw [start]
      cases hf : freshP s1 c with
      | true =>
        refine ⟨[sv, iv ((i : Int) + 1)], h8, by simp, x8, by simpa [idleG] using i8, by simp only [idleG]; rw [hearP_len]; exact hlen, by simp [idleG, hf]; omega, sv, by simpa [idleG, hf] using a8, hne, rfl⟩
      | false =>
        obtain ⟨v', h9, e9, a9, n9, k9, b9, hb9, hb9'⟩ := a8.push app25 app25 (bls25 (i : Int)) rfl rfl (by simp; omega) x8.nx
        refine ⟨[v', iv ((i : Int) + 1)], h9, by simp [e9], ⟨by have := x8.nx; omega, fun q hq => ?_⟩, ?_, by simp only [idleG]; rw [hearP_len]; exact hlen, by simp [idleG, hf]; omega, v', ?_, ?_, rfl⟩
        · rw [k9 q (by have := x8.nx; omega) (fun e => by have := (a8.blkOf e).1; omega)]
          exact x8.blk q hq
        · simp only [idleG]
          exact i8.keep n9 (k9 b i8.lt hne)
        · simpa [idleG, hf] using a9
        · rw [hb9]
          intro e
          cases e
          have := i8.lt
          omega)
  refine ⟨sv, h', x39 (k := l.length + 1) ?_ (by obtain ⟨x, y, z, hz⟩ := hap.isSl; rw [hz]; rfl), hx, hap.slR⟩
  have c77 := fun (K : Value → H → Option (Value × H)) => calls_eq (K := K) (xs := [_]) e77
  simp [f39, k71 hs1, hv, c77, cell_of hb3, hs.len, lp_eq hl]

end Go.AM

end

section

/- Spread, as the program tells it. -/
namespace Go.AM
open Go.Proofs
variable {k : Nat} {R : Type}
attribute [local simp] nx_eq nx_new nx_set blk_new blk_set asI_int asK_int asB_bool asP_ptr al_eq bx_eq len_slice onE_exit onE_ret onR_ret Value.cells d3 d29 d31 d56 d24 d59 d22 w3 cell_new cell_set rd_new rd_set off eq lt le ifB gv out eqF1 eqF2 eqF3 eqF4 eqF5 eqF6 eqF7 eqF8
attribute [local simp] k73 k74 k72 k42
/-- Is a person in a set? -/
def inP (s p : Int) : Bool := AM.and .i64 (shr .i64 s p) 1 == 1

/-- Who has heard after a call. -/
def nowP (now : Int) (c : Kl) : Int := if inP now c.a = true ∨ inP now c.b = true then AM.or .i64 now (AM.or .i64 (shl .i64 1 c.a) (shl .i64 1 c.b)) else now

/-- Is a call the last one of its time? -/
def lastP (l : List Kl) (i : Nat) (c : Kl) : Bool := decide (i + 1 = l.length) || (l[i + 1]?).any fun d => decide (c.t < d.t)

def spreadG (l : List Kl) (i : Nat) (c : Kl) (s : Int × List Int) : Int × List Int := (nowP s.1 c, if lastP l i c = true then s.2 ++ [nowP s.1 c] else s.2)

def spreadP (l : List Kl) (p : Int) : List Int := (foldI (spreadG l) l 0 (shl .i64 1 p, [shl .i64 1 p])).2

theorem s38_bad {n s : Int} {sl : Value} {l : List Kl} {h : H} (hs : SlR h 56 3 sl (l.map Kl.cells)) (hv : (validP n l && decide (0 ≤ s ∧ s < n)) = false) : ∃ h', rn 38 #[.agg #[iv n, sl], iv s] h = some (.tuple #[.slice none 0 0, iv 2], h') ∧ Ext h h' := by
  have x1 : Ext h (h.new (.row [iv n, sl] 31 true)) := .new _ _
  refine ⟨h.new (.row [iv n, sl] 31 true), x38 (k := 0) ?_ rfl, x1⟩
  cases h1 : validP n l with
  | false => simp [f38, k71 (hs.ext x1), h1]
  | true =>
    have : ¬ (0 ≤ s ∧ s < n) := by simpa [h1] using hv
    have hd : decide (0 ≤ s ∧ s < n) = false := decide_eq_false this
    simp only [f38, nx_eq, bx_eq, d31, cell_new, rd_new, Value.cells, k71 (hs.ext x1), h1, k72, hd]
    simp [k71 (hs.ext x1), h1]
    grind

theorem s38 {n p : Int} {sl : Value} {l : List Kl} {h : H} (hs : SlR h 56 3 sl (l.map Kl.cells)) (hv : validP n l = true) (hp : 0 ≤ p ∧ p < n) :
    ∃ v h', rn 38 #[.agg #[iv n, sl], iv p] h = some (.tuple #[v, iv 0], h') ∧ Ext h h' ∧ SlR h' 3 1 v (cellsI (spreadP l p)) := by
  obtain ⟨hn1, hn7, hl24, hok⟩ := validP_ok hv
  have x1 : Ext h (h.new (.row [iv n, sl] 31 true)) := .new _ _
  have x2 := Ext.new (h.new (.row [iv n, sl] 31 true)) (.row [iv (shl .i64 1 p)] 3 true)
  have x12 := x1.trans x2
  have hb2 : ((h.new (.row [iv n, sl] 31 true)).new (.row [iv (shl .i64 1 p)] 3 true)).blk h.nx = some (.row [iv n, sl] 31 true) := (x2.blk _ (Nat.lt_succ_self _)).trans (blk_new_self _ _)
  have a2 : AqR h.nx ((h.new (.row [iv n, sl] 31 true)).new (.row [iv (shl .i64 1 p)] 3 true)) 3 1 (.slice (some ⟨h.nx + 1, 0, none⟩) 1 1) (cellsI [shl .i64 1 p]) :=
    AqR.lit (l := cellsI [shl .i64 1 p]) (by simp [nx_new]) rfl (by simp) (by simp)
  obtain ⟨ws', h', hl, hx, ho, sv, hap, rfl⟩ := lp_for (F := f38_l1 rn (l.length + 1) h sl l.length) (k := l.length + 1) (l := l) (spreadG l)
    (fun i s ws g => Ext ((h.new (.row [iv n, sl] 31 true))) g ∧ s.2.length ≤ i + 1 ∧ ∃ sv, AqR (h.nx + 1) g 3 1 sv (cellsI s.2) ∧ ws = [iv s.1, sv, iv i]) 0 (ws := [iv (shl .i64 1 p), .slice (some ⟨h.nx + 1, 0, none⟩) 1 1, iv 0]) (h := (h.new (.row [iv n, sl] 31 true)).new (.row [iv (shl .i64 1 p)] 3 true)) (s0 := (shl .i64 1 p, [shl .i64 1 p]))
    ⟨x2, Nat.le_refl _, _, AqR.lit (l := cellsI [shl .i64 1 p]) (by simp [nx_new]) rfl (by simp) (by simp), rfl⟩ (by omega)
    (by
      rintro s ws g ⟨hx, ho, sv, hap, rfl⟩
      simp [f38_l1])
    (by
      rintro i c ⟨s1, s2⟩ ws g hc ⟨hx, ho, sv, hap, rfl⟩
      simp only at ho hap
      have hil := (List.getElem?_eq_some_iff.1 hc).1
      obtain ⟨ha, hb⟩ := ok_range hv hc
      have y7 := (Ext.refl g).fresh 56 [iv 0, iv 0, iv 0] c.cells
      have hcb := blk_fresh g 56 [iv 0, iv 0, iv 0] c.cells
      have hs7 := hs.ext (x1.trans (hx.trans y7))
      have hb7 : (g.fresh 56 [iv 0, iv 0, iv 0] c.cells).blk h.nx = some (.row [iv n, sl] 31 true) := ((hx.trans y7).blk _ (Nat.lt_succ_self _)).trans (blk_new_self _ _)
      have x7 := hx.trans y7
      have a7 := hap.ext y7
      have start : f38_l1 rn (l.length + 1) h sl l.length [iv s1, sv, iv i] g = (if lastP l i c = true then
          (bls Try.prog (g.fresh 56 [iv 0, iv 0, iv 0] c.cells) 25 1 [(0, iv (nowP s1 c))] fun v9 h8 => app Try.prog h8 25 25 sv v9 fun v10 h9 => some (.normal, [iv (nowP s1 c), v10, iv ((i : Int) + 1)], h9)) else
          some (.normal, [iv (nowP s1 c), sv, iv ((i : Int) + 1)], g.fresh 56 [iv 0, iv 0, iv 0] c.cells)) := by
        unfold f38_l1
        rw [show gv [iv s1, sv, iv i] 2 = iv i from rfl, show gv [iv s1, sv, iv i] 1 = sv from rfl, show gv [iv s1, sv, iv i] 0 = iv s1 from rfl, asI_int, lt_t (by omega), ifB_true, asK_int, (hs.ext (x1.trans hx)).ldA ag56 sz56 (by omega) (x := c.cells) (by simp [hc])]
        rw [al_st (zs := [iv 0, iv 0, iv 0]) (xs := c.cells) sz56 rfl rfl]
        generalize g.fresh 56 [iv 0, iv 0, iv 0] c.cells = h7 at *
        simp only [Kl.cells] at hcb
        have hlen : ∀ (K : Int → Option (Ex × List Value × H)), len sl K = K l.length := fun K => by rw [hs.len, List.length_map]
        have hadd : add .i64 (i : Int) 1 = (i : Int) + 1 := add64 (by omega) (by omega)
        by_cases hlast : i + 1 = l.length
        · have e1 : ((i : Int) + 1 = (l.length : Int)) = True := eq_true (by omega)
          simp [cell_of hcb, cell_of hb7, nn_ge ha.1, nn_ge hb.1, hlen, hadd, e1, lastP, hlast, nowP, inP]
          grind
        · have e1 : ((i : Int) + 1 = (l.length : Int)) = False := eq_false (by omega)
          have hd : l[i + 1]? = some l[i + 1] := List.getElem?_eq_getElem (by omega)
          have hnext : ∀ (K : Value → Option (Ex × List Value × H)), (six sl ((i : Int) + 1) 3 fun b o => (h7.cell b (o + 2)).bind K) = K (iv (l[i + 1]).t) := fun K =>
            hs7.cF (by omega) (x := (l[i + 1]).cells) (by rw [show ((i : Int) + 1).toNat = i + 1 by omega]; simp [hd]) rfl K
          simp [cell_of hcb, cell_of hb7, nn_ge ha.1, nn_ge hb.1, hlen, hadd, e1, lastP, hlast, nowP, inP, hnext, hd]
          grind
      rw [start]
      cases hf : lastP l i c with
      | false =>
        exact ⟨[iv (nowP s1 c), sv, iv ((i : Int) + 1)], _, by simp, x7, by simp [spreadG, hf]; omega, sv, by simpa [spreadG, hf] using a7, by simp [spreadG]⟩
      | true =>
        obtain ⟨v', h9, e9, a9, n9, k9, b9, hb9, hb9'⟩ := a7.push app25 app25 (bls25 (nowP s1 c)) rfl rfl (by simp; omega) x7.nx
        refine ⟨[iv (nowP s1 c), v', iv ((i : Int) + 1)], h9, by simp [e9], ⟨by have := x7.nx; omega, fun q hq => ?_⟩, by simp [spreadG, hf]; omega, v', by simpa [spreadG, hf] using a9, by simp [spreadG]⟩
        rw [k9 q (by have := x7.nx; omega) (fun e => by have := (a7.blkOf e).1; rw [nx_new] at hq; omega)]
        exact x7.blk q hq)
  refine ⟨sv, h', x38 (k := l.length + 1) ?_ (by obtain ⟨x, y, z, hz⟩ := hap.isSl; rw [hz]; rfl), x1.trans hx, hap.slR⟩
  have hd : decide (0 ≤ p ∧ p < n) = true := decide_eq_true hp
  have kbls : ∀ (K : Value → H → Option (Value × H)), bls Try.prog (h.new (.row [iv n, sl] 31 true)) 25 1 [(0, .int .i64 (shl .i64 1 p))] K = K (.slice (some ⟨h.nx + 1, 0, none⟩) 1 1) ((h.new (.row [iv n, sl] 31 true)).new (.row [iv (shl .i64 1 p)] 3 true)) := fun K => bls_some (bls25 (shl .i64 1 p) (h.new (.row [iv n, sl] 31 true)))
  simp [f38, k71 (hs.ext x1), hv, nn_ge hp.1, hp, kbls, hs.len, lp_eq hl]

end Go.AM

end

section

/- What the document says of news: Idle, and all that is heard. -/
namespace Go.AM
open Go.Proofs
variable {k : Nat} {R : Type}
attribute [local simp] nx_eq nx_new nx_set blk_new blk_set asI_int asK_int asB_bool asP_ptr al_eq bx_eq len_slice onE_exit onE_ret onR_ret Value.cells d3 d29 d31 d56 d24 d59 d22 d25 w3 cell_new cell_set rd_new rd_set off eq lt le ifB gv out eqF1 eqF2 eqF3 eqF4 eqF5 eqF6 eqF7 eqF8
theorem zero3 : zero? Try.prog 3 = some (iv 0) := by kernel_rfl

theorem set_bits (n i : Nat) (hi : i < n) : ((ownP i ++ List.replicate (n - i) 0).set i (bit i)) = ownP (i + 1) ++ List.replicate (n - (i + 1)) 0 := by
  have hl : (ownP i).length = i := by simp [ownP]
  rw [List.set_append_right _ _ (by omega), hl, Nat.sub_self]
  have : n - i = (n - (i + 1)) + 1 := by omega
  rw [this, List.replicate_succ, List.set_cons_zero]
  rw [show ownP (i + 1) = ownP i ++ [bit i] by simp [ownP, List.range_succ]]
  simp

/-- The loop that sets everybody's own news. -/
theorem own_loop {F : List Value → H → Option (Ex × List Value × H)} {n b : Nat} {h : H} {v : Value} (hn : n < 1000) (hv : IA h b v (List.replicate n 0))
    (hF : ∀ (ws : List Value) (g : H), F ws g = asI .i64 (gv ws 0) fun n2 => ifB (lt n2 n) (asK (gv ws 0) fun n3 => nn n3 (asK (gv ws 0) fun n4 => six v n4 1 fun b0 b1 => st Try.prog g 3 b0 b1 (.int .i64 (shl .i64 1 n3)) fun h4 =>
      asI .i64 (gv ws 0) fun n5 => out .normal [(.int .i64 (add .i64 n5 1))] h4)) (out (.exit 0) [gv ws 0] g)) :
    ∃ ws' h', lpGo F (n + 1) [iv 0] h = some (.exit 0, ws', h') ∧ h'.nx = h.nx ∧ (∀ q, q < h.nx → q ≠ b → h'.blk q = h.blk q) ∧ IA h' b v (ownP n) := by
  obtain ⟨ws', h', hl, hx, hf, hi, _⟩ := lp_for (F := F) (k := n + 1) (l := List.range n) (fun _ _ (_ : Unit) => ())
    (fun i _ ws g => g.nx = h.nx ∧ (∀ q, q < h.nx → q ≠ b → g.blk q = h.blk q) ∧ IA g b v (ownP i ++ List.replicate (n - i) 0) ∧ ws = [iv i]) 0 (ws := [iv 0]) (h := h) (s0 := ())
    ⟨rfl, fun _ _ _ => rfl, by simpa [ownP] using hv, rfl⟩ (by simp)
    (by
      rintro _ ws g ⟨hx, hf, hi, rfl⟩
      rw [hF]
      simp)
    (by
      rintro i c _ ws g hc ⟨hx, hf, hi, rfl⟩
      have hin : i < n := by simpa using (List.getElem?_eq_some_iff.1 hc).1
      have hlen : (ownP i ++ List.replicate (n - i) 0).length = n := by simp [ownP]; omega
      have w := hi.wrc (i := i) (by omega) (bit i)
      refine ⟨[iv ((i : Int) + 1)], g.set b (.row (((ownP i ++ List.replicate (n - i) 0).set i (bit i)).map iv) 3 true), ?_, ?_, ?_, ?_, rfl⟩
      · rw [hF]
        rw [show gv [iv i] 0 = iv i from rfl, asI_int, lt_t (by omega), ifB_true, asK_int, nn_ge (by omega), asK_int, hi.put (by omega) (by omega), Int.toNat_natCast, w3]
        simp only [bit] at w ⊢
        rw [w, Option.bind_some, asI_int, add64 (by omega) (by omega)]
        rfl
      · rw [nx_set]; exact hx
      · intro q hq hne
        rw [blk_set_ne _ _ _ hne]
        exact hf q hq hne
      · have := hi.set i (bit i)
        rw [set_bits n i hin] at this ⊢
        exact this)
  rw [List.length_range] at hi
  exact ⟨ws', h', hl, hx, hf, by simpa using hi⟩

/-- What both of a call know then. -/
def bothP (s : List Int) (c : Kl) : Int := AM.or .i64 (s.getD c.a.toNat 0) (s.getD c.b.toNat 0)

theorem hear_wr {g : H} {b : Nat} {v : Value} {s : List Int} {c : Kl} (hi : IA g b v s) (ha : 0 ≤ c.a ∧ c.a < s.length) (hb : 0 ≤ c.b ∧ c.b < s.length) :
    ∃ g', g'.nx = g.nx ∧ (∀ q, q ≠ b → g'.blk q = g.blk q) ∧ IA g' b v (hearP s c) ∧
      ∀ {R : Type} (K : H → Option R), ((wrc 1 g b c.a.toNat (.int .i64 (bothP s c))).bind fun h3 => (wrc 1 h3 b c.b.toNat (.int .i64 (bothP s c))).bind K) = K g' := by
  have w1 := hi.wrc (i := c.a.toNat) (by omega) (bothP s c)
  have i1 := hi.set c.a.toNat (bothP s c)
  have w2 := i1.wrc (i := c.b.toNat) (by rw [List.length_set]; omega) (bothP s c)
  have i2 := i1.set c.b.toNat (bothP s c)
  exact ⟨_, by rw [nx_set, nx_set], fun q hq => by rw [blk_set_ne _ _ _ hq, blk_set_ne _ _ _ hq], i2, fun K => by rw [w1, Option.bind_some, w2, Option.bind_some]⟩

theorem fresh_iff (s : List Int) (c : Kl) : freshP s c = !(decide (s.getD c.a.toNat 0 = bothP s c) && decide (s.getD c.b.toNat 0 = bothP s c)) := by
  unfold freshP bothP
  simp only [Bool.not_and]
  congr 1

theorem s41 {n : Int} {sl : Value} {l : List Kl} {h : H} (hs : SlR h 59 3 sl (l.map Kl.cells)) (hv : validP n l = true) :
    ∃ v h', rn 41 #[.agg #[iv n, sl]] h = some (v, h') ∧ Ext h h' ∧ SlR h' 3 1 v (cellsI (idleP n.toNat l)) := by
  obtain ⟨hn1, hn7, hl24, hok⟩ := validP_ok hv
  obtain ⟨m, rfl⟩ := Int.eq_ofNat_of_zero_le (show 0 ≤ n by omega)
  have x1 : Ext h (h.new (.row [iv m, sl] 24 true)) := .new _ _
  have x2 := Ext.new (h.new (.row [iv m, sl] 24 true)) (.row ((List.replicate m 0).map iv) 3 true)
  have i2 : IA ((h.new (.row [iv m, sl] 24 true)).new (.row ((List.replicate m 0).map iv) 3 true)) (h.nx + 1) (.slice (some ⟨h.nx + 1, 0, none⟩) m m) (List.replicate m 0) := ia_new (by omega) (by simp)
  obtain ⟨ws1, h5, hl1, n5, f5, i5⟩ := own_loop (F := f41_l1 rn (max l.length m + 1) (.slice (some ⟨h.nx + 1, 0, none⟩) m m) m) (n := m) (by omega) i2 (fun _ _ => rfl)
  have hl1' := lpGo_mono hl1 (show m + 1 ≤ max l.length m + 1 by omega)
  have x5 : Ext h h5 := ⟨by rw [n5]; simp only [nx_new]; omega, fun q hq => by rw [f5 q (by simp only [nx_new]; omega) (by omega)]; exact (x1.trans x2).blk q hq⟩
  have hb5 : h5.blk h.nx = some (.row [iv m, sl] 24 true) := (f5 h.nx (by simp only [nx_new]; omega) (by omega)).trans ((x2.blk _ (Nat.lt_succ_self _)).trans (blk_new_self _ _))
  generalize hvv : Value.slice (some ⟨h.nx + 1, 0, none⟩) m m = v2 at *
  obtain ⟨ws', h', hl, hx, hiaN, hlen, ho, sv, hap, hne, rfl⟩ := lp_for (F := f41_l2 rn (max l.length m + 1) v2 sl l.length) (k := max l.length m + 1) (l := l) idleG
    (fun i s ws g => Ext h g ∧ IA g (h.nx + 1) v2 s.1 ∧ s.1.length = m ∧ s.2.length ≤ i ∧ ∃ sv, AqR h.nx g 3 1 sv (cellsI s.2) ∧ blkOf sv ≠ some (h.nx + 1) ∧ ws = [sv, iv i]) 2 (ws := [.slice none 0 0, iv 0]) (h := h5) (s0 := (ownP m, []))
    ⟨x5, i5, by simp [ownP], Nat.le_refl _, _, .nil, by simp [blkOf], rfl⟩ (by omega)
    (by
      rintro s ws g ⟨hx, hi, hlen, ho, sv, hap, hne, rfl⟩
      simp [f41_l2])
    (by
      rintro i c ⟨s1, s2⟩ ws g hc ⟨hx, hi, hlen, ho, sv, hap, hne, rfl⟩
      simp only at hi hlen ho hap
      have hil := (List.getElem?_eq_some_iff.1 hc).1
      obtain ⟨ha, hb⟩ := ok_range hv hc
      have y7 := (Ext.refl g).fresh 59 [iv 0, iv 0, iv 0] c.cells
      have hcb := blk_fresh g 59 [iv 0, iv 0, iv 0] c.cells
      have n7 : (g.fresh 59 [iv 0, iv 0, iv 0] c.cells).nx = g.nx + 1 := rfl
      have i7 := hi.ext y7
      have a7 := hap.ext y7
      have hbl := hi.lt
      have hA : s1[c.a.toNat]? = some (s1.getD c.a.toNat 0) := by simp [show c.a.toNat < s1.length by omega]
      have hB : s1[c.b.toNat]? = some (s1.getD c.b.toNat 0) := by simp [show c.b.toNat < s1.length by omega]
      have x7 := hx.trans y7
      have pA : ∀ (K : Nat → Nat → Option (Ex × List Value × H)), six v2 c.a 1 K = K (h.nx + 1) c.a.toNat := fun K => i7.put ha.1 (by omega) K
      have pB : ∀ (K : Nat → Nat → Option (Ex × List Value × H)), six v2 c.b 1 K = K (h.nx + 1) c.b.toNat := fun K => i7.put hb.1 (by omega) K
      have hcell : ∀ o, (g.fresh 59 [iv 0, iv 0, iv 0] c.cells).cell (h.nx + 1) o = (s1.map iv)[o]? := fun o => cell_of i7.row
      have hadd : add .i64 (i : Int) 1 = (i : Int) + 1 := add64 (by omega) (by omega)
      have hor : AM.or .i64 (s1.getD c.a.toNat 0) (s1.getD c.b.toNat 0) = bothP s1 c := rfl
      have hfr := fresh_iff s1 c
      unfold f41_l2
      rw [show gv [sv, iv i] 1 = iv i from rfl, show gv [sv, iv i] 0 = sv from rfl, asI_int, lt_t (by omega), ifB_true, asK_int, (hs.ext hx).ldA ag59 sz59 (by omega) (x := c.cells) (by simp [hc])]
      rw [al_st (zs := [iv 0, iv 0, iv 0]) (xs := c.cells) sz59 rfl rfl]
      generalize hG : g.fresh 59 [iv 0, iv 0, iv 0] c.cells = h7 at *
      cases hf : freshP s1 c with
      | true =>
        obtain ⟨g', n', f', i', e'⟩ := hear_wr (c := c) i7 (by omega) (by omega)
        have hck : ∀ o : Nat, fre g.nx h7.nx 1 1 (h.nx + 1) o 1 = true := fun o => by simp only [fre, Bool.and_eq_true, decide_eq_true_eq]; omega
        refine ⟨[sv, iv ((i : Int) + 1)], g', ?_, ⟨by have := x7.nx; omega, fun q hq => by rw [f' q (by omega)]; exact x7.blk q hq⟩, by simpa [idleG] using i', by simp only [idleG]; rw [hearP_len]; exact hlen, by simp [idleG, hf]; omega, sv, ?_, hne, rfl⟩
        · simp only [Kl.cells] at hcb
          rw [hf] at hfr
          generalize s1.getD c.a.toNat 0 = A at *
          generalize s1.getD c.b.toNat 0 = B at *
          simp [cell_of hcb, pA, pB, hcell, hA, hB, hck, ck, hadd, hor, e']
          grind
        · simp only [idleG, hf, if_true]
          exact a7.keep (by omega) fun q hq => f' q (fun e => hne (e ▸ hq))
      | false =>
        obtain ⟨v', h9, e9, a9, n9, k9, b9, hb9, hb9'⟩ := a7.push app25 app25 (bls25 (i : Int)) rfl rfl (by simp; omega) x7.nx
        have i9 := i7.keep n9 (k9 _ i7.lt hne)
        have hcb9 : h9.blk g.nx = some (.row c.cells 59 true) := (k9 g.nx (by omega) (fun e => by have := (hap.blkOf e).2.1; omega)).trans hcb
        obtain ⟨g', n', f', i', e'⟩ := hear_wr (c := c) i9 (by omega) (by omega)
        have hck : ∀ o : Nat, fre g.nx h9.nx 1 1 (h.nx + 1) o 1 = true := fun o => by simp only [fre, Bool.and_eq_true, decide_eq_true_eq]; omega
        refine ⟨[v', iv ((i : Int) + 1)], g', ?_, ⟨by have := x7.nx; omega, fun q hq => ?_⟩, by simpa [idleG] using i', by simp only [idleG]; rw [hearP_len]; exact hlen, by simp [idleG, hf]; omega, v', ?_, ?_, rfl⟩
        · simp only [Kl.cells] at hcb hcb9
          rw [hf] at hfr
          generalize s1.getD c.a.toNat 0 = A at *
          generalize s1.getD c.b.toNat 0 = B at *
          have hAB : A = bothP s1 c ∧ B = bothP s1 c := by simpa using hfr
          obtain ⟨h1, h2⟩ := hAB
          subst h1
          subst h2
          simp [cell_of hcb, cell_of hcb9, pA, pB, hcell, hA, hB, hck, ck, hadd, hor, e', e9]
        · rw [f' q (by omega), k9 q (by have := x7.nx; omega) (fun e => by have := (a7.blkOf e).1; omega)]
          exact x7.blk q hq
        · have := a9.keep (h' := g') (by omega) fun q hq => f' q (fun e => by rw [hb9] at hq; cases hq; omega)
          simpa [idleG, hf] using this
        · rw [hb9]
          intro e
          cases e
          omega)
  refine ⟨sv, h', x41 (k := max l.length m + 1) ?_ (by obtain ⟨x, y, z, hz⟩ := hap.isSl; rw [hz]; rfl), hx, hap.slR⟩
  have kmk : ∀ (K : Value → H → Option (Value × H)), mks Try.prog (h.new (.row [iv m, sl] 24 true)) 25 m m K = K v2 ((h.new (.row [iv m, sl] 24 true)).new (.row ((List.replicate m 0).map iv) 3 true)) := fun K => by
    rw [← hvv]; exact mks_ints app25 zero3 (by omega) K
  simp only [List.map_replicate] at hl1'
  simp [f41, kmk, i2.len, lp_eq hl1', cell_of hb5, hs.len, lp_eq hl]

end Go.AM

end

section

/- All that is heard, as the document tells it. -/
namespace Go.AM
open Go.Proofs
variable {k : Nat} {R : Type}
attribute [local simp] nx_eq nx_new nx_set blk_new blk_set asI_int asK_int asB_bool asP_ptr al_eq bx_eq len_slice onE_exit onE_ret onR_ret Value.cells d3 d29 d31 d56 d24 d59 d22 d25 w3 cell_new cell_set rd_new rd_set off eq lt le ifB gv out eqF1 eqF2 eqF3 eqF4 eqF5 eqF6 eqF7 eqF8
theorem app58 : okApp Try.prog 58 25 1 = true := by kernel_rfl

theorem bls58 (b o n c : Nat) (h : H) : buildSlice Try.prog 58 1 [(0, .slice (some ⟨b, o, none⟩) n c)] h = some (.slice (some ⟨h.nx, 0, none⟩) 1 1, h.new (.row [.slice (some ⟨b, o, none⟩) n c] 25 true)) := by kernel_rfl

abbrev cellsV (l : List Value) : List (List Value) := l.map fun v => [v]

/-- Does a time begin with a call? -/
def firstP (l : List Kl) (i : Nat) (c : Kl) : Bool := decide (i = 0) || (l[i - 1]?).any fun d => decide (d.t < c.t)

def heardG (l : List Kl) (i : Nat) (c : Kl) (s : List (List Int) × List Int) : List (List Int) × List Int := (if firstP l i c = true then s.1 ++ [s.2] else s.1, hearP s.2 c)

def heardP (n : Nat) (l : List Kl) : List (List Int) × List Int := foldI (heardG l) l 0 ([], ownP n)

/-- Slices of slices of numbers. -/
def SsR (h : H) (vs : List Value) (ls : List (List Int)) : Prop := vs.length = ls.length ∧ ∀ (j : Nat) (v : Value) (l : List Int), vs[j]? = some v → ls[j]? = some l → SlR h 3 1 v (cellsI l)

theorem SlR.keep {h h' : H} {e : TypeId} {s : Nat} {v : Value} {l : List (List Value)} (a : SlR h e s v l) (hn : h.nx ≤ h'.nx) (hb : ∀ b o n c, v = .slice (some ⟨b, o, none⟩) n c → h'.blk b = h.blk b) : SlR h' e s v l := by
  cases a with
  | nil => exact .nil
  | at_ hb' hr hk hc hl hx => exact .at_ (Nat.lt_of_lt_of_le hb' hn) ((hb _ _ _ _ rfl).trans hr) hk hc hl hx

theorem SsR.keep {h h' : H} {vs : List Value} {ls : List (List Int)} (a : SsR h vs ls) (hn : h.nx ≤ h'.nx) (hb : ∀ v ∈ vs, ∀ b, blkOf v = some b → h'.blk b = h.blk b) : SsR h' vs ls :=
  ⟨a.1, fun j v l hv hl => (a.2 j v l hv hl).keep hn fun b o n c e => hb v (List.mem_of_getElem? hv) b (by rw [e]; rfl)⟩

theorem SsR.snoc {h : H} {vs : List Value} {ls : List (List Int)} (a : SsR h vs ls) {v : Value} {l : List Int} (hv : SlR h 3 1 v (cellsI l)) : SsR h (vs ++ [v]) (ls ++ [l]) := by
  refine ⟨by simp [a.1], fun j w m hw hm => ?_⟩
  rcases Nat.lt_or_ge j vs.length with h1 | h1
  · rw [List.getElem?_append_left h1] at hw
    rw [List.getElem?_append_left (by rw [← a.1]; exact h1)] at hm
    exact a.2 j w m hw hm
  · rw [List.getElem?_append_right h1] at hw
    rw [List.getElem?_append_right (by rw [← a.1]; exact h1)] at hm
    have h2 : j - vs.length = 0 := by
      rcases Nat.eq_zero_or_pos (j - vs.length) with h2 | h2
      · exact h2
      · rw [List.getElem?_eq_none (by simp; omega)] at hw; cases hw
    rw [h2] at hw
    rw [← a.1, h2] at hm
    simp at hw hm
    subst hw; subst hm
    exact hv

theorem SsR.bel {h : H} {vs : List Value} {ls : List (List Int)} (a : SsR h vs ls) {v : Value} (hv : v ∈ vs) {b : Nat} (hb : blkOf v = some b) : b < h.nx := by
  obtain ⟨j, hj, rfl⟩ := List.getElem_of_mem hv
  have := a.2 j vs[j] (ls[j]'(by rw [← a.1]; exact hj)) (List.getElem?_eq_getElem hj) (List.getElem?_eq_getElem _)
  generalize vs[j] = v at *
  generalize cellsI (ls[j]'_) = L at this
  cases this with
  | nil => cases hb
  | at_ hb' => cases hb; exact hb'

theorem s79 {n : Int} {sl : Value} {l : List Kl} {h : H} (hs : SlR h 59 3 sl (l.map Kl.cells)) (hv : validP n l = true) :
    ∃ v h' pv vl, rn 79 #[.agg #[iv n, sl]] h = some (v, h') ∧ Ext h h' ∧ SlR h' 25 1 v (cellsV (pv ++ [vl])) ∧ SsR h' pv (heardP n.toNat l).1 ∧ SlR h' 3 1 vl (cellsI (heardP n.toNat l).2) := by
  obtain ⟨hn1, hn7, hl24, hok⟩ := validP_ok hv
  obtain ⟨m, rfl⟩ := Int.eq_ofNat_of_zero_le (show 0 ≤ n by omega)
  have x1 : Ext h (h.new (.row [iv m, sl] 24 true)) := .new _ _
  have x2 := Ext.new (h.new (.row [iv m, sl] 24 true)) (.row ((List.replicate m 0).map iv) 3 true)
  have i2 : IA ((h.new (.row [iv m, sl] 24 true)).new (.row ((List.replicate m 0).map iv) 3 true)) (h.nx + 1) (.slice (some ⟨h.nx + 1, 0, none⟩) m m) (List.replicate m 0) := ia_new (by omega) (by simp)
  obtain ⟨ws1, h5, hl1, n5, f5, i5⟩ := own_loop (F := f79_l1 rn (max l.length m + 1) (.slice (some ⟨h.nx + 1, 0, none⟩) m m) m) (n := m) (by omega) i2 (fun _ _ => rfl)
  have hl1' := lpGo_mono hl1 (show m + 1 ≤ max l.length m + 1 by omega)
  have x5 : Ext h h5 := ⟨by rw [n5]; simp only [nx_new]; omega, fun q hq => by rw [f5 q (by simp only [nx_new]; omega) (by omega)]; exact (x1.trans x2).blk q hq⟩
  have hb5 : h5.blk h.nx = some (.row [iv m, sl] 24 true) := (f5 h.nx (by simp only [nx_new]; omega) (by omega)).trans ((x2.blk _ (Nat.lt_succ_self _)).trans (blk_new_self _ _))
  have n5' : h5.nx = h.nx + 2 := by rw [n5]; rfl
  have x6 := Ext.new h5 (.row [.slice (some ⟨h.nx + 1, 0, none⟩) m m] 25 true)
  have a6 : AqR h.nx (h5.new (.row [.slice (some ⟨h.nx + 1, 0, none⟩) m m] 25 true)) 25 1 (.slice (some ⟨h5.nx, 0, none⟩) 1 1) (cellsV [.slice (some ⟨h.nx + 1, 0, none⟩) m m]) :=
    AqR.lit (l := cellsV [.slice (some ⟨h.nx + 1, 0, none⟩) m m]) (by omega) rfl (by simp) (by simp)
  have k58 : ∀ (K : Value → H → Option (Value × H)), bls Try.prog h5 58 1 [(0, .slice (some ⟨h.nx + 1, 0, none⟩) m m)] K = K (.slice (some ⟨h5.nx, 0, none⟩) 1 1) (h5.new (.row [.slice (some ⟨h.nx + 1, 0, none⟩) m m] 25 true)) := fun K => bls_some (bls58 _ _ _ _ _)
  have hbs : blkOf (.slice (some ⟨h.nx + 1, 0, none⟩) m m) = some (h.nx + 1) := rfl
  generalize hvv : Value.slice (some ⟨h.nx + 1, 0, none⟩) m m = v2 at *
  obtain ⟨ws', h', hl, hx, hlen, hpl, sv, pv, vl, b, hap, hne, hss, hpv, hlo, hia, hbl, rfl⟩ := lp_for (F := f79_l2 rn (max l.length m + 1) h sl l.length) (k := max l.length m + 1) (l := l) (heardG l)
    (fun i s ws g => Ext (h.new (.row [iv m, sl] 24 true)) g ∧ s.2.length = m ∧ s.1.length ≤ i ∧ ∃ sv pv vl b, AqR h.nx g 25 1 sv (cellsV (pv ++ [vl])) ∧ (∀ q, blkOf sv = some q → h.nx < q) ∧ SsR g pv s.1 ∧ (∀ v ∈ pv, blkOf v ≠ some b) ∧ h.nx < b ∧ IA g b vl s.2 ∧ blkOf vl = some b ∧ ws = [sv, iv i]) 2
    (ws := [.slice (some ⟨h5.nx, 0, none⟩) 1 1, iv 0]) (h := h5.new (.row [v2] 25 true)) (s0 := ([], ownP m))
    ⟨⟨by rw [nx_new, nx_new]; omega, fun q hq => by rw [nx_new] at hq; rw [blk_new_ne _ _ (by omega), f5 q (by simp only [nx_new]; omega) (by omega), blk_new_ne _ _ (by simp only [nx_new]; omega)]⟩, by simp [ownP], Nat.le_refl _, _, [], v2, h.nx + 1, by simpa using a6,
      (fun q hq => by cases hq; omega), ⟨rfl, fun j v l hv => by simp at hv⟩, by simp, by omega, i5.ext x6, hbs, rfl⟩ (by omega)
    (by
      rintro s ws g ⟨hx, hlen, hpl, sv, pv, vl, b, hap, hne, hss, hpv, hlo, hia, hbl, rfl⟩
      simp [f79_l2])
    (by
      rintro i c ⟨s1, s2⟩ ws g hc ⟨hx, hlen, hpl, sv, pv, vl, b, hap, hne, hss, hpv, hlo, hia, hbl, rfl⟩
      simp only at hlen hpl hss hia
      have hil := (List.getElem?_eq_some_iff.1 hc).1
      obtain ⟨ha, hb⟩ := ok_range hv hc
      have y7 := (Ext.refl g).fresh 59 [iv 0, iv 0, iv 0] c.cells
      have hcb := blk_fresh g 59 [iv 0, iv 0, iv 0] c.cells
      have n7 : (g.fresh 59 [iv 0, iv 0, iv 0] c.cells).nx = g.nx + 1 := rfl
      have x7 := hx.trans y7
      have hb7 : (g.fresh 59 [iv 0, iv 0, iv 0] c.cells).blk h.nx = some (.row [iv m, sl] 24 true) := (x7.blk _ (Nat.lt_succ_self _)).trans (blk_new_self _ _)
      have hs7 := hs.ext (x1.trans x7)
      have i7 := hia.ext y7
      have a7 := hap.ext y7
      have ss7 := hss.keep y7.nx fun v hv q hq => y7.blk q (hss.bel hv hq)
      have hbg := hia.lt
      have hgx := hx.nx
      rw [nx_new] at hgx
      have hA : s2[c.a.toNat]? = some (s2.getD c.a.toNat 0) := by simp [show c.a.toNat < s2.length by omega]
      have hB : s2[c.b.toNat]? = some (s2.getD c.b.toNat 0) := by simp [show c.b.toNat < s2.length by omega]
      have hadd : add .i64 (i : Int) 1 = (i : Int) + 1 := add64 (by omega) (by omega)
      have hor : AM.or .i64 (s2.getD c.a.toNat 0) (s2.getD c.b.toNat 0) = bothP s2 c := rfl
      have hpvl : pv.length = s1.length := hss.1
      unfold f79_l2
      rw [show gv [sv, iv i] 1 = iv i from rfl, show gv [sv, iv i] 0 = sv from rfl, asI_int, lt_t (by omega), ifB_true, asK_int, (hs.ext (x1.trans hx)).ldA ag59 sz59 (by omega) (x := c.cells) (by simp [hc])]
      rw [al_st (zs := [iv 0, iv 0, iv 0]) (xs := c.cells) sz59 rfl rfl]
      generalize hG : g.fresh 59 [iv 0, iv 0, iv 0] c.cells = h7 at *
      simp only [Kl.cells] at hcb
      have hprev : ∀ (K : Value → Option (Ex × List Value × H)) (d : Kl), ¬ i = 0 → l[i - 1]? = some d → (six sl (sub .i64 (i : Int) 1) 3 fun b o => (h7.cell b (o + 2)).bind K) = K (iv d.t) := fun K d h0 hd => by
        rw [sub64 (by omega) (by omega)]
        exact hs7.cF (by omega) (x := d.cells) (by rw [show ((i : Int) - 1).toNat = i - 1 by omega]; simp [hd]) rfl K
      -- the last of what was heard, wherever it stands
      have lastOf : ∀ (g : H) (sv : Value) (ps : List Value) (w : Value) (x : Int), SlR g 25 1 sv (cellsV (ps ++ [w])) → x = ps.length + 1 → ps.length < 1000 → (∀ (K : Int → Option (Ex × List Value × H)), len sv K = K x) ∧
          ∀ (K : Value → Option (Ex × List Value × H)), (six sv (sub .i64 x 1) 1 fun b o => (g.cell b o).bind K) = K w := by
        intro g sv ps w x hsv hx hps
        subst hx
        refine ⟨fun K => by rw [hsv.len]; simp, fun K => ?_⟩
        rw [sub64 (by omega) (by omega)]
        exact hsv.c0 (by omega) (x := [w]) (by rw [show (((ps.length : Int) + 1) - 1).toNat = ps.length by omega]; simp) rfl K
      cases hf : firstP l i c with
      | true =>
        have kb : ∀ (K : Value → H → Option (Ex × List Value × H)), bls Try.prog h7 25 0 [] K = K (.slice (some ⟨h7.nx, 0, none⟩) 0 0) (h7.new (.row [] 3 true)) := fun K => bls_some (bls25e h7)
        have x10 := Ext.new h7 (.row [] 3 true)
        have a10 : AqR h7.nx (h7.new (.row [] 3 true)) 3 1 (.slice (some ⟨h7.nx, 0, none⟩) 0 0) [] := AqR.lit (l := []) (Nat.le_refl _) rfl (by simp) (by simp)
        obtain ⟨l10, g10⟩ := lastOf _ sv pv vl ((pv.length : Int) + 1) (a7.ext x10).slR rfl (by omega)
        obtain ⟨v8, h11, e11, a11, n11, k11, b11⟩ := a10.app app25 app25 (i7.ext x10).slR (by rw [List.all_eq_true]; intro x hx; simp only [flat1, List.mem_map] at hx; obtain ⟨z, _, rfl⟩ := hx; rfl) (by simp; omega) (by rw [nx_new]; omega)
        rw [List.nil_append] at a11
        obtain ⟨b8, hlo8, hb8, i11⟩ := a11.ia (by intro e; rw [e] at hlen; simp at hlen; omega)
        have x11 : Ext h7 h11 := ⟨Nat.le_trans x10.nx n11, fun q hq => by rw [k11 q (by rw [nx_new]; omega) (by intro e; cases e; omega)]; exact x10.blk q hq⟩
        obtain ⟨w8, hw8, _⟩ := i11.val
        obtain ⟨v10, h13, e13, a13, n13, k13, b13, hb13, hb13'⟩ := (a7.ext x11).push app58 app58 (xv := v8) (t2 := 58) (x := [v8]) (by rw [hw8]; exact bls58 _ _ _ _) rfl (by rw [hw8]; rfl) (by simp; omega) (by have := x11.nx; omega)
        have a13' : AqR h.nx h13 25 1 v10 (cellsV ((pv ++ [vl]) ++ [v8])) := by simpa using a13
        obtain ⟨l13, g13⟩ := lastOf _ v10 (pv ++ [vl]) v8 ((pv.length : Int) + 1 + 1) a13'.slR (by simp) (by simp; omega)
        have keep13 : ∀ q, q < h11.nx → blkOf sv ≠ some q → h13.blk q = h11.blk q := k13
        have svl : ∀ q, blkOf sv = some q → q < g.nx := fun q hq => (hap.blkOf hq).2.1
        have svt : ∀ q c, blkOf sv = some q → h7.blk q = some (.row c 3 true) → False := fun q c hq hr => by
          have := (a7.blkOf hq).2.2
          rw [this] at hr
          simp at hr
        have i13 : IA h13 b8 v8 s2 := i11.keep n13 (keep13 b8 i11.lt fun e => by have := svl b8 e; omega)
        have hcb13 : h13.blk g.nx = some (.row [iv c.a, iv c.b, iv c.t] 59 true) := (keep13 g.nx (by have := x11.nx; omega) (fun e => by have := svl _ e; omega)).trans ((x11.blk _ (by omega)).trans hcb)
        obtain ⟨g', n', f', i', e'⟩ := hear_wr (c := c) i13 (by omega) (by omega)
        have pA : ∀ (K : Nat → Nat → Option (Ex × List Value × H)), six v8 c.a 1 K = K b8 c.a.toNat := fun K => i13.put ha.1 (by omega) K
        have pB : ∀ (K : Nat → Nat → Option (Ex × List Value × H)), six v8 c.b 1 K = K b8 c.b.toNat := fun K => i13.put hb.1 (by omega) K
        have hcell : ∀ o, h13.cell b8 o = (s2.map iv)[o]? := fun o => cell_of i13.row
        have hck : ∀ o : Nat, fre g.nx h13.nx 1 1 b8 o 1 = true := fun o => by simp only [fre, Bool.and_eq_true, decide_eq_true_eq]; have := x11.nx; omega
        have vlS : SlR g' 3 1 vl (cellsI s2) := (i7.slR).keep (by have := x11.nx; omega) fun q o n c e => by
          have : q = b := by rw [e] at hbl; cases hbl; rfl
          subst this
          rw [f' q (by omega), keep13 q (by have := x11.nx; omega) (fun e => svt q _ e i7.row), x11.blk q (by omega)]
        have ss' : SsR g' pv s1 := ss7.keep (by have := x11.nx; omega) fun v hv q hq => by
          have hqg := hss.bel hv hq
          rw [f' q (by omega), keep13 q (by have := x11.nx; omega) (fun e => ?_), x11.blk q (by omega)]
          obtain ⟨j, hj, rfl⟩ := List.getElem_of_mem hv
          have := ss7.2 j pv[j] (s1[j]'(by omega)) (List.getElem?_eq_getElem hj) (List.getElem?_eq_getElem _)
          generalize pv[j] = v at *
          generalize cellsI (s1[j]'_) = L at this
          cases this with
          | nil => cases hq
          | at_ _ hr => cases hq; have := (a7.blkOf e).2.2; rw [this] at hr; simp at hr
        refine ⟨[v10, iv ((i : Int) + 1)], g', ?_, ⟨by have := x11.nx; rw [nx_new]; omega, fun q hq => ?_⟩, by simp only [heardG]; rw [hearP_len]; exact hlen, by simp [heardG, hf]; omega, v10, pv ++ [vl], v8, b8, ?_, fun q hq => ?_, by simpa [heardG, hf] using ss'.snoc vlS, ?_, by omega, by simpa [heardG] using i', by rw [hw8]; rw [hw8] at hb8; exact hb8, rfl⟩
        · generalize h7.new (.row [] 3 true) = h10 at *
          generalize s2.getD c.a.toNat 0 = A at *
          generalize s2.getD c.b.toNat 0 = B at *
          by_cases h0 : i = 0
          · subst h0
            have h01 : add .i64 0 1 = 1 := by decide
            simp [cell_of hcb, cell_of hb7, cell_of hcb13, pA, pB, hcell, hA, hB, hck, ck, hor, e', kb, l10, g10, e11, e13, l13, g13, h01]
          · have hd : ∃ d, l[i - 1]? = some d := ⟨_, List.getElem?_eq_getElem (by omega)⟩
            obtain ⟨d, hd⟩ := hd
            have hdt : d.t < c.t := by simpa [firstP, h0, hd] using hf
            simp [cell_of hcb, cell_of hb7, cell_of hcb13, pA, pB, hcell, hA, hB, hck, ck, hor, e', kb, l10, g10, e11, e13, l13, g13, hprev _ d h0 hd, h0, hdt, hadd]
        · have hq' : q < h.nx + 1 := hq
          rw [f' q (by omega), keep13 q (by have := x11.nx; omega) (fun e => by have := hne q e; omega), x11.blk q (by omega)]
          exact x7.blk q hq
        · exact a13'.keep (by omega) fun q hq => f' q (fun e => by rw [hb13] at hq; cases hq; have := i11.lt; omega)
        · rw [hb13] at hq; cases hq; have := x11.nx; omega
        · intro v hv e
          rcases List.mem_append.1 hv with hv | hv
          · have := hss.bel hv e; omega
          · simp at hv; subst hv; rw [hbl] at e; cases e; omega
      | false =>
        have h0 : ¬ i = 0 := by intro e; simp [firstP, e] at hf
        have hd : ∃ d, l[i - 1]? = some d := ⟨_, List.getElem?_eq_getElem (by omega)⟩
        obtain ⟨d, hd⟩ := hd
        have hdt : ¬ d.t < c.t := by simpa [firstP, h0, hd] using hf
        obtain ⟨l7, g7⟩ := lastOf _ sv pv vl ((pv.length : Int) + 1) a7.slR rfl (by omega)
        have svt : ∀ q c, blkOf sv = some q → h7.blk q = some (.row c 3 true) → False := fun q c hq hr => by
          have := (a7.blkOf hq).2.2
          rw [this] at hr
          simp at hr
        obtain ⟨g', n', f', i', e'⟩ := hear_wr (c := c) i7 (by omega) (by omega)
        have pA : ∀ (K : Nat → Nat → Option (Ex × List Value × H)), six vl c.a 1 K = K b c.a.toNat := fun K => i7.put ha.1 (by omega) K
        have pB : ∀ (K : Nat → Nat → Option (Ex × List Value × H)), six vl c.b 1 K = K b c.b.toNat := fun K => i7.put hb.1 (by omega) K
        have hcell : ∀ o, h7.cell b o = (s2.map iv)[o]? := fun o => cell_of i7.row
        have hck : ∀ o : Nat, fre g.nx h7.nx 1 1 b o 1 = true := fun o => by simp only [fre, Bool.and_eq_true, decide_eq_true_eq]; omega
        refine ⟨[sv, iv ((i : Int) + 1)], g', ?_, ⟨by rw [nx_new]; omega, fun q hq => ?_⟩, by simp only [heardG]; rw [hearP_len]; exact hlen, by simp [heardG, hf]; omega, sv, pv, vl, b, ?_, hne, ?_, hpv, hlo, by simpa [heardG] using i', hbl, rfl⟩
        · generalize s2.getD c.a.toNat 0 = A at *
          generalize s2.getD c.b.toNat 0 = B at *
          simp [cell_of hcb, cell_of hb7, pA, pB, hcell, hA, hB, hck, ck, hor, e', l7, g7, hprev _ d h0 hd, h0, hdt, hadd]
        · have hq' : q < h.nx + 1 := hq
          rw [f' q (by omega)]
          exact x7.blk q hq
        · exact a7.keep (by omega) fun q hq => f' q (fun e => svt q _ hq (e ▸ i7.row))
        · simp only [heardG, hf]
          exact ss7.keep (by omega) fun v hv q hq => f' q fun e => hpv v hv (e ▸ hq))
  simp only [List.map_replicate] at hl1'
  refine ⟨sv, h', pv, vl, x79 (k := max l.length m + 1) ?_ (by obtain ⟨x, y, z, hz⟩ := hap.isSl; rw [hz]; rfl), x1.trans hx, hap.slR, hss, hia.slR⟩
  have kmk : ∀ (K : Value → H → Option (Value × H)), mks Try.prog (h.new (.row [iv m, sl] 24 true)) 25 m m K = K v2 ((h.new (.row [iv m, sl] 24 true)).new (.row ((List.replicate m 0).map iv) 3 true)) := fun K => by
    rw [← hvv]; exact mks_ints app25 zero3 (by omega) K
  simp [f79, kmk, i2.len, lp_eq hl1', cell_of hb5, hs.len, lp_eq hl, k58, lt_ne (show h.nx < h5.nx by omega)]

end Go.AM

end

section

/- News, Spread and gossip, as the document tells them. -/
namespace Go.AM
open Go.Proofs
variable {k : Nat} {R : Type}
attribute [local simp] nx_eq nx_new nx_set blk_new blk_set asI_int asK_int asB_bool asP_ptr al_eq bx_eq len_slice onE_exit onE_ret onR_ret Value.cells d3 d29 d31 d56 d24 d59 d22 d25 w3 cell_new cell_set rd_new rd_set off eq lt le ifB gv out eqF1 eqF2 eqF3 eqF4 eqF5 eqF6 eqF7 eqF8
theorem heard_last (n : Nat) (l : List Kl) : (heardP n l).2 = newsP n l := by
  unfold heardP newsP
  have : ∀ (l' : List Kl) (i : Nat) (s : List (List Int) × List Int), (foldI (heardG l) l' i s).2 = l'.foldl hearP s.2 := by
    intro l'
    induction l' with
    | nil => intro i s; rfl
    | cons c l' ih => intro i s; rw [foldI, ih]; rfl
  exact this l 0 _

theorem heard_len (n : Nat) (l : List Kl) : (heardP n l).1.length ≤ l.length := by
  unfold heardP
  have : ∀ (l' : List Kl) (i : Nat) (s : List (List Int) × List Int), (foldI (heardG l) l' i s).1.length ≤ s.1.length + l'.length := by
    intro l'
    induction l' with
    | nil => intro i s; exact Nat.le_refl _
    | cons c l' ih =>
      intro i s
      refine Nat.le_trans (ih (i + 1) _) ?_
      simp only [heardG, List.length_cons]
      split <;> simp <;> omega
  have := this l 0 ([], ownP n)
  simpa using this

theorem heard_lens (n : Nat) (l : List Kl) : ∀ L ∈ (heardP n l).1 ++ [(heardP n l).2], L.length = n := by
  unfold heardP
  have : ∀ (l' : List Kl) (i : Nat) (s : List (List Int) × List Int), (∀ L ∈ s.1 ++ [s.2], L.length = n) → ∀ L ∈ (foldI (heardG l) l' i s).1 ++ [(foldI (heardG l) l' i s).2], L.length = n := by
    intro l'
    induction l' with
    | nil => intro i s h; exact h
    | cons c l' ih =>
      intro i s h
      refine ih (i + 1) _ ?_
      have h2 : (hearP s.2 c).length = n := by rw [hearP_len]; exact h _ (by simp)
      intro L hL
      simp only [heardG] at hL
      split at hL
      · simp only [List.append_assoc, List.mem_append, List.mem_cons, List.not_mem_nil, or_false] at hL
        rcases hL with hL | hL | hL
        · exact h L (by simp [hL])
        · exact h L (by simp [hL])
        · rw [hL]; exact h2
      · simp only [List.mem_append, List.mem_cons, List.not_mem_nil, or_false] at hL
        rcases hL with hL | hL
        · exact h L (by simp [hL])
        · rw [hL]; exact h2
  exact this l 0 ([], ownP n) (by simp [ownP])

theorem s40 {n : Int} {sl : Value} {l : List Kl} {h : H} (hs : SlR h 59 3 sl (l.map Kl.cells)) (hv : validP n l = true) :
    ∃ v h', rn 40 #[.agg #[iv n, sl]] h = some (v, h') ∧ Ext h h' ∧ SlR h' 3 1 v (cellsI (newsP n.toNat l)) := by
  have x1 : Ext h (h.new (.row [iv n, sl] 24 true)) := .new _ _
  obtain ⟨v, h', pv, vl, e, x, hs1, hs2, hs3⟩ := s79 (n := n) (hs.ext x1) hv
  have hpv := hs2.1
  have hle := heard_len n.toNat l
  have hl24 := (validP_ok hv).2.2.1
  rw [heard_last] at hs3
  refine ⟨vl, h', x40 (k := 0) ?_ hs3.notR, x1.trans x, hs3⟩
  have c1 := fun (K : Value → H → Option (Value × H)) => calls_eq (K := K) (xs := [_]) e
  have c2 : ∀ (K : Value → Option (Value × H)), (six v (sub .i64 ((pv.length : Int) + 1) 1) 1 fun b o => (h'.cell b o).bind K) = K vl := fun K => by
    rw [sub64 (by omega) (by omega)]
    exact hs1.c0 (by omega) (x := [vl]) (by rw [show (((pv.length : Int) + 1) - 1).toNat = pv.length by omega]; simp) rfl K
  simp [f40, c1, hs1.len, c2]

/-- Do all know all? -/
def allP (n : Nat) (L : List Int) : Bool := L.all fun x => decide (x = sub .i64 (shl .i64 1 n) 1)

theorem s36 {n : Int} {sl : Value} {l : List Kl} {h : H} (hs : SlR h 59 3 sl (l.map Kl.cells)) (hv : validP n l = true) : rn 36 #[.agg #[iv n, sl]] h = some (.bool (allP n.toNat (newsP n.toNat l)), h) := by
  obtain ⟨hn1, hn7, hl24, hok⟩ := validP_ok hv
  obtain ⟨m, rfl⟩ := Int.eq_ofNat_of_zero_le (show 0 ≤ n by omega)
  have x1 : Ext h (h.new (.row [iv m, sl] 24 true)) := .new _ _
  obtain ⟨v, h', e, x, hs1⟩ := s40 (n := (m : Int)) (hs.ext x1) hv
  rw [Int.toNat_natCast] at *
  have hb : h'.blk h.nx = some (.row [iv m, sl] 24 true) := (x.blk _ (Nat.lt_succ_self _)).trans (blk_new_self _ _)
  have hlen : (newsP m l).length = m := newsP_len m l
  generalize newsP m l = L at *
  have hl := lp_same (F := f36_l1 rn (L.length + 1) h v L.length) (k := L.length + 1) (l := L) (h := h') (fun i (_ : Unit) => [.bool false, iv i])
    (fun i x s => if decide (x = sub .i64 (shl .i64 1 m) 1) = true then .inl s else .inr i) (fun _ _ => True) (fun _ => .ret) (fun i => [.bool false, iv i]) 0 (fun _ => [.bool false, iv L.length]) (ws := [.bool false, iv 0]) (s0 := ()) rfl trivial (by omega) (by simp)
    (fun _ _ => by simp [f36_l1])
    (by
      intro i x _ hx _
      have hi := (List.getElem?_eq_some_iff.1 hx).1
      refine ⟨fun _ _ => trivial, ?_⟩
      have g1 : ∀ (K : Value → Option (Ex × List Value × H)), (six v (i : Int) 1 fun b o => (h'.cell b o).bind K) = K (iv x) := fun K => hs1.c0 (by omega) (x := [iv x]) (by simp [hx]) rfl K
      simp [f36_l1, show i < L.length by omega, g1, cell_of hb, nn_ge, rnd]
      rw [add64 (by omega) (by omega)]
      grind)
  refine p36 (k := L.length + 1) (h1 := h') ?_ rfl (x1.trans x)
  have c1 := fun (K : Value → H → Option (Value × H)) => calls_eq (K := K) (xs := [_]) e
  rcases itL_all (ok := fun _ x => decide (x = sub .i64 (shl .i64 1 m) 1)) (g := fun i _ => i) (s0 := ()) L 0 with ⟨⟨r, h1⟩, j, x, hx, h2⟩ | ⟨h1, h2⟩
  · rw [h1] at hl
    simp [f36, c1, hs1.len, lp_eq hl, allP]
    exact ⟨x, List.mem_of_getElem? hx, by simpa using h2⟩
  · rw [h1] at hl
    simp [f36, c1, hs1.len, lp_eq hl.1, allP]
    intro x hx
    obtain ⟨j, hj, rfl⟩ := List.getElem_of_mem hx
    simpa using h2 j _ (List.getElem?_eq_getElem hj)

/-- Who has the news of a person. -/
def transG (s : Int) (p : Nat) (x : Int) (set : Int) : Int := AM.or .i64 set (shl .i64 (AM.and .i64 (shr .i64 x s) 1) p)

def transP (s : Int) (L : List Int) : Int := foldI (transG s) L 0 0

theorem s43 {n s : Int} {sl : Value} {l : List Kl} {h : H} (hs : SlR h 59 3 sl (l.map Kl.cells)) (hv : validP n l = true) (hp : 0 ≤ s) :
    ∃ v h', rn 43 #[.agg #[iv n, sl], iv s] h = some (v, h') ∧ Ext h h' ∧ SlR h' 3 1 v (cellsI (((heardP n.toNat l).1 ++ [(heardP n.toNat l).2]).map (transP s))) := by
  obtain ⟨hn1, hn7, hl24, hok⟩ := validP_ok hv
  have x1 : Ext h (h.new (.row [iv n, sl] 24 true)) := .new _ _
  obtain ⟨v2, h2, pv, vl, e, x2, hs1, hs2, hs3⟩ := s79 (n := n) (hs.ext x1) hv
  have hss := hs2.snoc hs3
  have hle := heard_len n.toNat l
  have hlens : (pv ++ [vl]).length ≤ 25 := by have := hs2.1; simp; omega
  have hall := heard_lens n.toNat l
  have hb2 : h2.blk h.nx = some (.row [iv n, sl] 24 true) := (x2.blk _ (Nat.lt_succ_self _)).trans (blk_new_self _ _)
  generalize (heardP n.toNat l).1 ++ [(heardP n.toNat l).2] = LL at *
  have hlenL := hss.1
  obtain ⟨ws', h', hl, hx, ho, sv, hap, rfl⟩ := lp_for (F := f43_l1 rn 30 s v2 LL.length) (k := 30) (l := LL) (fun _ (L : List Int) (out : List Int) => out ++ [transP s L])
    (fun i s ws g => Ext h2 g ∧ s.length ≤ i ∧ ∃ sv, AqR h2.nx g 3 1 sv (cellsI s) ∧ ws = [sv, iv i]) 0 (ws := [.slice none 0 0, iv 0]) (h := h2) (s0 := [])
    ⟨.refl _, Nat.le_refl _, _, .nil, rfl⟩ (by omega)
    (by
      rintro s ws g ⟨hx, ho, sv, hap, rfl⟩
      simp [f43_l1])
    (by
      rintro i L out ws g hL ⟨hx, ho, sv, hap, rfl⟩
      have hi := (List.getElem?_eq_some_iff.1 hL).1
      have hvi : (pv ++ [vl])[i]? = some (pv ++ [vl])[i] := List.getElem?_eq_getElem (by omega)
      have hsi := (hss.2 i _ L hvi hL).ext hx
      generalize (pv ++ [vl])[i] = vi at *
      have hLlen := hall L (List.mem_of_getElem? hL)
      have g1 : ∀ (K : Value → Option (Ex × List Value × H)), (six v2 (i : Int) 1 fun b o => (g.cell b o).bind K) = K vi := fun K => (hs1.ext hx).c0 (by omega) (x := [vi]) (by simp only [Int.toNat_natCast, List.getElem?_map, hvi]; rfl) rfl K
      have hin := lp_same (ρ := Empty) (F := f43_l2 rn 30 s vi L.length) (k := 30) (l := L) (h := g) (fun i (set : Int) => [iv set, iv i])
        (fun p x set => .inl (transG s p x set)) (fun _ _ => True) (fun _ => .ret) (fun i => []) 2 (fun set => [iv set, iv L.length]) (ws := [iv 0, iv 0]) (s0 := 0) rfl trivial (by omega) (by simp)
        (fun _ _ => by simp [f43_l2])
        (by
          intro p x set hx' _
          have hp' := (List.getElem?_eq_some_iff.1 hx').1
          refine ⟨fun _ _ => trivial, ?_⟩
          have g2 : ∀ (K : Value → Option (Ex × List Value × H)), (six vi (p : Int) 1 fun b o => (g.cell b o).bind K) = K (iv x) := fun K => hsi.c0 (by omega) (x := [iv x]) (by simp [hx']) rfl K
          simp [f43_l2, hp', g2, nn_ge hp, nn_ge, rnd, transG]
          rw [add64 (by omega) (by omega)])
      rw [itL_inl] at hin
      obtain ⟨v', h9, e9, a9, n9, k9, b9, hb9, hb9'⟩ := hap.push app25 app25 (bls25 (transP s L)) rfl rfl (by simp; omega) hx.nx
      refine ⟨[v', iv ((i : Int) + 1)], h9, ?_, ⟨by have := hx.nx; omega, fun q hq => ?_⟩, by simp; omega, v', by simpa using a9, rfl⟩
      · unfold transP at e9
        simp only [f43_l1]
        simp [hi, g1, hsi.len, lp_eq hin.1, e9]
        rw [add64 (by omega) (by omega)]
      · rw [k9 q (by have := hx.nx; omega) (fun e => by have := (hap.blkOf e).1; omega)]
        exact hx.blk q hq)
  have hfin : foldI (fun _ (L : List Int) (out : List Int) => out ++ [transP s L]) LL 0 [] = LL.map (transP s) := by
    have : ∀ (LL : List (List Int)) (i : Nat) (o : List Int), foldI (fun _ (L : List Int) (out : List Int) => out ++ [transP s L]) LL i o = o ++ LL.map (transP s) := by
      intro LL
      induction LL with
      | nil => intro i o; simp [foldI]
      | cons L LL ih => intro i o; rw [foldI, ih]; simp
    simpa using this LL 0 []
  rw [hfin] at hap
  refine ⟨sv, h', x43 (k := 30) ?_ hap.slR.notR, (x1.trans x2).trans hx, hap.slR⟩
  have c1 := fun (K : Value → H → Option (Value × H)) => calls_eq (K := K) (xs := [_]) e
  have hlv : ∀ (K : Int → Option (Value × H)), len v2 K = K LL.length := fun K => by rw [hs1.len, List.length_map, hlenL]
  simp [f43, c1, hlv, lp_eq hl]

end Go.AM

end

section

/- Spread tells what the document tells. -/
namespace Go.AM
open Go.Proofs
/-- Numbers that are sets of people below a bound. -/
def NS (k : Nat) (L : List Int) (M : List Nat) : Prop := L = M.map (fun x : Nat => (x : Int)) ∧ ∀ x ∈ M, x < 2 ^ k

theorem NS.len {k : Nat} {L : List Int} {M : List Nat} (h : NS k L M) : L.length = M.length := by rw [h.1]; simp

theorem NS.get {k : Nat} {L : List Int} {M : List Nat} (h : NS k L M) {i : Nat} (hi : i < M.length) : L.getD i 0 = ((M.getD i 0 : Nat) : Int) ∧ M.getD i 0 < 2 ^ k := by
  rw [h.1]
  have h1 : M[i]? = some M[i] := List.getElem?_eq_getElem hi
  have h2 : M[i] ∈ M := List.getElem_mem hi
  simp only [List.getD_eq_getElem?_getD, List.getElem?_map, h1]
  exact ⟨rfl, h.2 _ h2⟩

theorem ownP_ns {n : Nat} (hn : n ≤ 7) : NS 7 (ownP n) ((List.range n).map fun p => 2 ^ p) := by
  refine ⟨?_, fun x hx => ?_⟩
  · unfold ownP
    rw [List.map_map]
    apply List.map_congr_left
    intro p hp
    have := List.mem_range.1 hp
    exact shl1_nat (by omega)
  · simp only [List.mem_map, List.mem_range] at hx
    obtain ⟨p, hp, rfl⟩ := hx
    exact Nat.pow_lt_pow_right (by omega) (by omega)

/-- A call is made, of sets. -/
def hearN (M : List Nat) (a b : Nat) : List Nat := (M.set a (M.getD a 0 ||| M.getD b 0)).set b (M.getD a 0 ||| M.getD b 0)

theorem hearP_ns {L : List Int} {M : List Nat} {c : Kl} (h : NS 7 L M) (ha : 0 ≤ c.a ∧ c.a < L.length) (hb : 0 ≤ c.b ∧ c.b < L.length) : NS 7 (hearP L c) (hearN M c.a.toNat c.b.toNat) := by
  have hl := h.len
  obtain ⟨a1, a2⟩ := h.get (i := c.a.toNat) (by omega)
  obtain ⟨b1, b2⟩ := h.get (i := c.b.toNat) (by omega)
  have e : AM.or .i64 (L.getD c.a.toNat 0) (L.getD c.b.toNat 0) = ((M.getD c.a.toNat 0 ||| M.getD c.b.toNat 0 : Nat) : Int) := by
    rw [a1, b1]
    exact or_nat (by omega) (by omega)
  have hlt := Nat.or_lt_two_pow a2 b2
  refine ⟨?_, fun x hx => ?_⟩
  · unfold hearP hearN
    simp only [e]
    rw [List.map_set, List.map_set, ← h.1]
  · unfold hearN at hx
    rcases List.mem_or_eq_of_mem_set hx with hx | rfl
    · rcases List.mem_or_eq_of_mem_set hx with hx | rfl
      · exact h.2 x hx
      · exact hlt
    · exact hlt

/-- Who has the news of a person, as a set. -/
def transN (s : Nat) : List Nat → Nat → Nat → Nat
  | [], _, a => a
  | x :: M, p, a => transN s M (p + 1) (a ||| (if x.testBit s then 2 ^ p else 0))

theorem transP_ns {s : Nat} (hs : s < 7) : ∀ (M : List Nat) (p a : Nat), (∀ x ∈ M, x < 2 ^ 7) → p + M.length ≤ 7 → a < 2 ^ 7 →
    foldI (transG s) (M.map fun x : Nat => (x : Int)) p (a : Int) = ((transN s M p a : Nat) : Int) ∧ transN s M p a < 2 ^ 7 ∧ ∀ q, (transN s M p a).testBit q = (a.testBit q || (decide (p ≤ q) && (M[q - p]?).any fun x => x.testBit s)) := by
  intro M
  induction M with
  | nil => intro p a _ _ ha; exact ⟨rfl, ha, fun q => by simp [transN]⟩
  | cons x M ih =>
    intro p a hM hp ha
    simp only [List.length_cons] at hp
    have hx : x < 2 ^ 7 := hM x (by simp)
    have e : transG s p (x : Int) (a : Int) = ((a ||| (if x.testBit s then 2 ^ p else 0) : Nat) : Int) := by
      unfold transG
      rw [bit_nat (by omega) (by omega)]
      cases x.testBit s with
      | true =>
        simp only [if_true]
        rw [shl1_nat (by omega)]
        exact or_nat (by omega) (Nat.pow_lt_pow_right (by omega) (by omega))
      | false =>
        simp only [Bool.false_eq_true, if_false]
        rw [show AM.shl .i64 0 (p : Int) = ((0 : Nat) : Int) by
          have := shl_nat (a := 0) (p := p) (by simp) (by omega)
          simpa using this]
        exact or_nat (by omega) (by decide)
    have hlt : (a ||| (if x.testBit s then 2 ^ p else 0)) < 2 ^ 7 := by
      refine Nat.or_lt_two_pow ha ?_
      split
      · exact Nat.pow_lt_pow_right (by omega) (by omega)
      · decide
    obtain ⟨h1, h2, h3⟩ := ih (p + 1) _ (fun y hy => hM y (List.mem_cons_of_mem _ hy)) (by omega) hlt
    refine ⟨?_, h2, fun q => ?_⟩
    · simp only [List.map_cons, foldI]
      rw [e]
      exact h1
    · simp only [transN]
      rw [h3 q, Nat.testBit_or]
      by_cases hq : p = q
      · subst hq
        have hn : ¬ p + 1 ≤ p := by omega
        cases hxs : x.testBit s <;> simp [hxs, hn, testBit_pow]
      · have hb : (if x.testBit s then 2 ^ p else 0).testBit q = false := by
          split
          · rw [testBit_pow]; exact decide_eq_false hq
          · simp
        rw [hb]
        by_cases hlt : p < q
        · have e1 : q - p = (q - (p + 1)) + 1 := by omega
          rw [e1]
          simp [show p + 1 ≤ q by omega, show p ≤ q by omega]
        · simp [show ¬ p + 1 ≤ q by omega, show ¬ p ≤ q by omega]

theorem transP_spec {s : Nat} (hs : s < 7) {L : List Int} {M : List Nat} (h : NS 7 L M) (hl : M.length ≤ 7) :
    ∃ t : Nat, transP s L = (t : Int) ∧ t < 2 ^ 7 ∧ ∀ q, t.testBit q = ((M[q]?).any fun x => x.testBit s) := by
  obtain ⟨h1, h2, h3⟩ := transP_ns hs M 0 0 h.2 (by omega) (by decide)
  refine ⟨_, ?_, h2, fun q => ?_⟩
  · unfold transP
    rw [h.1]
    exact h1
  · rw [h3 q]; simp

theorem hearN_get (M : List Nat) (a b : Nat) (ha : a < M.length) (hb : b < M.length) (s q : Nat) :
    ((hearN M a b)[q]?).any (fun x => x.testBit s) = if q = a ∨ q = b then ((M[a]?).any fun x => x.testBit s) || ((M[b]?).any fun x => x.testBit s) else (M[q]?).any fun x => x.testBit s := by
  unfold hearN
  rw [List.getElem?_set, List.getElem?_set]
  simp only [List.length_set, List.getD_eq_getElem?_getD, List.getElem?_eq_getElem ha, List.getElem?_eq_getElem hb, Option.getD_some]
  by_cases h1 : b = q
  · subst h1; simp [hb]
  · by_cases h2 : a = q
    · subst h2; simp [h1, ha]
    · simp [h1, h2, Ne.symm h1, Ne.symm h2]

/-- Who has heard after a call, and what all know then. -/
theorem now_hear {s : Nat} (hs : s < 7) {L : List Int} {M : List Nat} {c : Kl} (h : NS 7 L M) (hl : M.length ≤ 7) (ha : 0 ≤ c.a ∧ c.a < L.length) (hb : 0 ≤ c.b ∧ c.b < L.length) :
    nowP (transP s L) c = transP s (hearP L c) := by
  have hlen := h.len
  obtain ⟨t, e1, t1, t2⟩ := transP_spec hs h hl
  have hns := hearP_ns h ha hb
  obtain ⟨u, e2, u1, u2⟩ := transP_spec hs hns (by simp [hearN]; omega)
  rw [e1, e2]
  obtain ⟨a, hca⟩ := Int.eq_ofNat_of_zero_le ha.1
  obtain ⟨b, hcb⟩ := Int.eq_ofNat_of_zero_le hb.1
  rw [hca] at ha
  rw [hcb] at hb
  rw [hca, hcb] at u2
  simp only [Int.toNat_natCast] at u2
  have u3 : ∀ q, u.testBit q = if q = a ∨ q = b then t.testBit a || t.testBit b else t.testBit q := fun q => by
    rw [u2 q, hearN_get M a b (by omega) (by omega), t2 a, t2 b, t2 q]
  unfold nowP inP
  rw [hca, hcb]
  simp only [beq_iff_eq]
  simp only [bit_eq1 (a := t) (p := a) (by omega) (by omega), bit_eq1 (a := t) (p := b) (by omega) (by omega)]
  have pa : 2 ^ a < 2 ^ 7 := Nat.pow_lt_pow_right (by omega) (by omega)
  have pb : 2 ^ b < 2 ^ 7 := Nat.pow_lt_pow_right (by omega) (by omega)
  have pab := Nat.or_lt_two_pow pa pb
  rw [shl1_nat (by omega), shl1_nat (by omega), or_nat (by omega) (by omega), or_nat (by omega) (by omega)]
  split
  · rename_i hin
    congr 1
    apply Nat.eq_of_testBit_eq
    intro q
    rw [u3 q, Nat.testBit_or, Nat.testBit_or, testBit_pow, testBit_pow]
    by_cases h1 : q = a
    · subst h1; rcases hin with h2 | h2 <;> simp [h2]
    · by_cases h2 : q = b
      · subst h2; rcases hin with h3 | h3 <;> simp [h3]
      · simp [h1, h2, Ne.symm h1, Ne.symm h2]
  · rename_i hin
    congr 1
    apply Nat.eq_of_testBit_eq
    intro q
    rw [u3 q]
    simp only [not_or, Bool.not_eq_true] at hin
    by_cases h1 : q = a
    · subst h1; simp [hin.1, hin.2]
    · by_cases h2 : q = b
      · subst h2; simp [hin.1, hin.2]
      · simp [h1, h2]

theorem trans_own {n s : Nat} (hn : n ≤ 7) (hs : s < n) : transP s (ownP n) = shl .i64 1 s := by
  obtain ⟨t, e1, t1, t2⟩ := transP_spec (s := s) (by omega) (ownP_ns hn) (by simp; omega)
  rw [e1, shl1_nat (by omega)]
  congr 1
  apply Nat.eq_of_testBit_eq
  intro q
  rw [t2 q, testBit_pow]
  by_cases hq : q < n
  · simp [List.getElem?_map, hq, testBit_pow, eq_comm]
  · have : s ≠ q := by omega
    simp [List.getElem?_map, List.getElem?_range, hq, this]

theorem spread_eq {n : Nat} {l : List Kl} {s : Nat} (hv : validP n l = true) (hs : s < n) : spreadP l s = ((heardP n l).1 ++ [(heardP n l).2]).map (transP s) := by
  obtain ⟨hn1, hn7, hl24, hok⟩ := validP_ok hv
  unfold spreadP heardP
  have key : ∀ (l' : List Kl) (i : Nat) (st : Int × List Int) (hd : List (List Int) × List Int) (M : List Nat), l.drop i = l' → NS 7 hd.2 M → M.length = n → st.1 = transP s hd.2 →
      (if i = 0 ∨ (∃ c, l[i - 1]? = some c ∧ lastP l (i - 1) c = true) then st.2 = (hd.1 ++ [hd.2]).map (transP s) else st.2 = hd.1.map (transP s)) → (i = 0 ∨ i ≤ l.length) →
      (l' = [] → (i = 0 ∨ ∃ c, l[i - 1]? = some c ∧ lastP l (i - 1) c = true)) →
      (foldI (spreadG l) l' i st).2 = ((foldI (heardG l) l' i hd).1 ++ [(foldI (heardG l) l' i hd).2]).map (transP s) := by
    intro l'
    induction l' with
    | nil =>
      intro i st hd M _ _ _ _ hst _ hlast
      rw [if_pos (hlast rfl)] at hst
      exact hst
    | cons c l' ih =>
      intro i st hd M hdrop hns hM hnow hst hi _
      have hil : i < l.length := by
        rcases Nat.lt_or_ge i l.length with h | h
        · exact h
        · rw [List.drop_of_length_le h] at hdrop; cases hdrop
      have hc : l[i]? = some c := by
        have := List.getElem?_drop (xs := l) (i := i) (j := 0)
        rw [hdrop] at this
        simpa using this.symm
      have hdrop' : l.drop (i + 1) = l' := by
        have := List.drop_drop (i := 1) (j := i) (l := l)
        rw [hdrop] at this
        rw [← this]
        rfl
      obtain ⟨ha, hb⟩ := ok_range hv hc
      have hlen := hns.len
      have hns' := hearP_ns (c := c) hns (by omega) (by omega)
      have hnow' : nowP st.1 c = transP s (hearP hd.2 c) := by
        rw [hnow]
        exact now_hear (by omega) hns (by omega) (by omega) (by omega)
      -- a time ends where the next one begins
      have hfl : (i = 0 ∨ (∃ d, l[i - 1]? = some d ∧ lastP l (i - 1) d = true)) ↔ firstP l i c = true := by
        unfold firstP lastP
        by_cases h0 : i = 0
        · simp [h0]
        · have hd' : l[i - 1]? = some l[i - 1] := List.getElem?_eq_getElem (by omega)
          have e1 : i - 1 + 1 = i := by omega
          simp only [h0, false_or, hd', e1, hc, Option.any_some, decide_false, Bool.false_or, Option.some.injEq, exists_eq_left']
          have : ¬ i = l.length := by omega
          simp [this]
      have hst' : st.2 = (heardG l i c hd).1.map (transP s) := by
        simp only [heardG]
        by_cases hf : firstP l i c = true
        · rw [if_pos (hfl.2 hf)] at hst
          rw [if_pos hf]
          exact hst
        · rw [if_neg (fun h => hf (hfl.1 h))] at hst
          rw [if_neg hf]
          exact hst
      simp only [foldI]
      refine ih (i + 1) (spreadG l i c st) (heardG l i c hd) _ hdrop' (by simpa [heardG] using hns') (by simp [hearN]; exact hM) (by simpa [heardG, spreadG] using hnow') ?_ (by omega) ?_
      · simp only [Nat.add_sub_cancel, hc, Nat.succ_ne_zero, false_or, Option.some.injEq, exists_eq_left']
        by_cases hlp : lastP l i c = true
        · rw [if_pos hlp]
          simp only [spreadG, hlp, if_true]
          rw [hst', hnow']
          simp [heardG]
        · rw [if_neg hlp]
          simp only [spreadG, hlp]
          exact hst'
      · intro hnil
        subst hnil
        have : i + 1 = l.length := by
          have := congrArg List.length hdrop'
          simp at this
          omega
        right
        rw [Nat.add_sub_cancel]
        exact ⟨c, hc, by simp only [lastP, this, decide_true, Bool.true_or]⟩
  refine key l 0 _ _ _ (by simp) (ownP_ns (by omega)) (by simp) (trans_own (by omega) hs).symm ?_ (.inl rfl) (fun _ => .inl rfl)
  simp [trans_own (show n ≤ 7 by omega) hs]

end Go.AM

end

section

/- CallsNews, on the abstract machine. -/
namespace Go.AM
open Go.Proofs
variable {k : Nat} {R : Type}
attribute [local simp] nx_eq nx_new nx_set blk_new blk_set asI_int asK_int asB_bool asP_ptr al_eq bx_eq len_slice onE_exit onE_ret onR_ret Value.cells d3 d29 d31 d56 d24 d59 d22 d25 w3 cell_new cell_set rd_new rd_set off eq lt le ifB gv out eqF1 eqF2 eqF3 eqF4 eqF5 eqF6 eqF7 eqF8 ext20 ext21 k42
theorem s22 (h : H) : rn 22 #[] h = some (.bool true, h) := by
  have e : call Try.prog E0 60 22 #[] h = some (.bool true, h) := by kernel_rfl
  exact run_iso rfl e

theorem k22 (h : H) (K : Value → H → Option R) : calls rn h 22 [] K = K (.bool true) h := calls_eq (s22 h)

theorem k35 {n : Int} {sl : Value} {l : List Kl} {h : H} (hs : SlR h 59 3 sl (l.map Kl.cells)) (K : Value → H → Option R) : calls rn h 35 [.agg #[iv n, sl]] K = K (.bool (validP n l)) h := calls_eq (s35 hs)

theorem k26 {v0 v1 : Value} {a b : List Int} {h : H} (ha : SlR h 3 1 v0 (cellsI a)) (hb : SlR h 3 1 v1 (cellsI b)) (K : Value → H → Option R) : calls rn h 26 [v0, v1] K = K (.bool (decide (a = b))) h := calls_eq (s26 ha hb)

theorem s6 {n s : Int} {sl : Value} {l : List Kl} {h : H} (hs : SlR h 59 3 sl (l.map Kl.cells)) : ∃ h', rn 6 #[.agg #[iv n, sl], iv s] h = some (.bool true, h') := by
  have x1 : Ext h (h.new (.row [iv n, sl] 24 true)) := .new _ _
  have b1 : (h.new (.row [iv n, sl] 24 true)).blk h.nx = some (.row [iv n, sl] 24 true) := blk_new_self _ _
  have n1 : h.nx < (h.new (.row [iv n, sl] 24 true)).nx := Nat.lt_succ_self _
  have start : ∃ h1, Ext h h1 ∧ f6 rn 0 (.agg #[iv n, sl]) s h = some (.bool true, h1) := by
    unfold f6
    rw [bx_eq, nx_eq, show (Value.agg #[iv n, sl]).cells.toList = [iv n, sl] from rfl]
    generalize h.new (.row [iv n, sl] 24 true) = h1 at *
    have ld1 : ∀ (g : H), Ext h1 g → ∀ (K : Value → Option (Value × H)), ld Try.prog g 24 h.nx 0 K = K (.agg #[iv n, sl]) := fun g x K => by
      rw [d24, rd_all (n := 2) ((x.blk _ n1).trans b1) rfl]; rfl
    obtain ⟨la, h2, e2, x2, s2⟩ := s18 (n := n) (hs.ext x1)
    rw [ld1 _ (.refl _), calls_eq (xs := [_]) e2]
    by_cases hv : validP n l = true
    · have hv' : validP n (l.take 26) = true := by rw [validP_take]; exact hv
      have hl : l.take 26 = l := List.take_of_length_le (by have := (validP_ok hv).2.2.1; omega)
      rw [hl] at s2
      obtain ⟨va, h3, e3, x3, sa⟩ := s37 s2 hv
      rw [calls_eq (xs := [_]) e3, ext20, ext21, asI_int]
      have x13 := x2.trans x3
      rw [ld1 _ x13]
      obtain ⟨lb, h4, e4, x4, s4⟩ := s18 (n := n) (hs.ext (x1.trans x13))
      rw [calls_eq (xs := [_]) e4]
      rw [hl] at s4
      have x14 := x13.trans x4
      obtain ⟨b5, h5, n5, e5, x5, s5⟩ : ∃ v h5 e, rn 38 #[.agg #[iv n, lb], iv s] h4 = some (.tuple #[v, iv e], h5) ∧ Ext h4 h5 ∧ (if 0 ≤ s ∧ s < n then e = 0 ∧ SlR h5 3 1 v (cellsI (spreadP l s)) else e = 2 ∧ v = .slice none 0 0) := by
        by_cases hp : 0 ≤ s ∧ s < n
        · obtain ⟨v, h5, q1, q2, q3⟩ := s38 s4 hv hp
          exact ⟨v, h5, 0, q1, q2, by rw [if_pos hp]; exact ⟨rfl, q3⟩⟩
        · obtain ⟨h5, q1, q2⟩ := s38_bad (n := n) (s := s) s4 (by simp [hp])
          exact ⟨_, h5, 2, q1, q2, by rw [if_neg hp]; exact ⟨rfl, rfl⟩⟩
      rw [calls_eq (xs := [_, _]) e5, ext20, ext21, asI_int]
      have x15 := x14.trans x5
      rw [ld1 _ x15]
      obtain ⟨lc, h6, e6, x6, s6⟩ := s18 (n := n) (hs.ext (x1.trans x15))
      rw [calls_eq (xs := [_]) e6]
      rw [hl] at s6
      have x16 := x15.trans x6
      obtain ⟨vc, h7, e7, x7, sc⟩ := s39 s6 hv
      rw [calls_eq (xs := [_]) e7, ext20, ext21, asI_int]
      have x17 := x16.trans x7
      rw [ld1 _ x17, k35 (hs.ext (x1.trans x17)), asB_bool, hv]
      simp only [Bool.not_true, ifB, Bool.false_eq_true, if_false]
      rw [ld1 _ x17]
      obtain ⟨v8, h8, e8, x8, s8⟩ := s40 (hs.ext (x1.trans x17)) hv
      have x18 := x17.trans x8
      rw [calls_eq (xs := [_]) e8, k26 (sa.ext (x4.trans (x5.trans (x6.trans (x7.trans x8))))) s8, asB_bool, ld1 _ x18]
      obtain ⟨v9, h9, e9, x9, s9⟩ := s41 (hs.ext (x1.trans x18)) hv
      have x19 := x18.trans x9
      rw [calls_eq (xs := [_]) e9, k26 (sc.ext (x8.trans x9)) s9, asB_bool, k22, asB_bool, ld1 _ x19]
      simp only [decide_true, Bool.not_true, eq, beq_self_eq_true, Bool.false_eq_true, if_false]
      rw [k42, asB_bool]
      by_cases hp : 0 ≤ s ∧ s < n
      · rw [if_pos hp] at s5
        obtain ⟨rfl, s5⟩ := s5
        rw [decide_eq_true hp, ld1 _ x19]
        obtain ⟨vd, h10, e10, x10, s10⟩ := s43 (s := s) (hs.ext (x1.trans x19)) hv hp.1
        obtain ⟨m, rfl⟩ := Int.eq_ofNat_of_zero_le (show 0 ≤ n by have := (validP_ok hv).1; omega)
        obtain ⟨t, rfl⟩ := Int.eq_ofNat_of_zero_le hp.1
        rw [Int.toNat_natCast, ← spread_eq hv (by omega)] at s10
        rw [calls_eq (xs := [_, _]) e10, k26 (s5.ext (x6.trans (x7.trans (x8.trans (x9.trans x10))))) s10, asB_bool]
        exact ⟨h10, x1.trans (x19.trans x10), by simp⟩
      · rw [if_neg hp] at s5
        obtain ⟨rfl, rfl⟩ := s5
        rw [decide_eq_false hp]
        exact ⟨h9, x1.trans x19, by simp⟩
    · have hv0 : validP n l = false := by simpa using hv
      have hv' : validP n (l.take 26) = false := by rw [validP_take]; exact hv0
      obtain ⟨h3, e3, x3⟩ := s37_bad s2 hv'
      rw [calls_eq (xs := [_]) e3, ext20, ext21, asI_int]
      have x13 := x2.trans x3
      rw [ld1 _ x13]
      obtain ⟨lb, h4, e4, x4, s4⟩ := s18 (n := n) (hs.ext (x1.trans x13))
      rw [calls_eq (xs := [_]) e4]
      have x14 := x13.trans x4
      obtain ⟨h5, e5, x5⟩ := s38_bad (n := n) (s := s) s4 (by simp [hv'])
      rw [calls_eq (xs := [_, _]) e5, ext20, ext21, asI_int]
      have x15 := x14.trans x5
      rw [ld1 _ x15]
      obtain ⟨lc, h6, e6, x6, s6⟩ := s18 (n := n) (hs.ext (x1.trans x15))
      rw [calls_eq (xs := [_]) e6]
      have x16 := x15.trans x6
      obtain ⟨h7, e7, x7⟩ := s39_bad s6 hv'
      rw [calls_eq (xs := [_]) e7, ext20, ext21, asI_int]
      have x17 := x16.trans x7
      rw [ld1 _ x17, k35 (hs.ext (x1.trans x17)), asB_bool, hv0]
      refine ⟨h7, x1.trans x17, ?_⟩
      have h00 : add .i64 (add .i64 0 0) 0 = 0 := by decide
      simp [k22, h00]
  obtain ⟨h1, _, e⟩ := start
  exact ⟨_, t6 e⟩

end Go.AM

end
