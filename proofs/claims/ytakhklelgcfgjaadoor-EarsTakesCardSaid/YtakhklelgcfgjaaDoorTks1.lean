/- Parts of the proof, put together: what the functions of the program answer, and plain laws. -/
import Derived.Test.YtakhklelgcfgjaaDoorAmSim
import Derived.Test.YtakhklelgcfgjaaDoorProg
import Derived.KernelRfl
import Derived.Test.YtakhklelgcfgjaaDoorAmIt

section

/- The seat's environment, what its types are, and calls in the end. -/
namespace Go.AM
open Go.Proofs
/-- The table by which the library finds the lowest bit. -/
def tab64 : List Int := [0, 1, 56, 2, 57, 49, 28, 3, 61, 58, 42, 50, 38, 29, 17, 4, 62, 47, 59, 36, 45, 43, 51, 22, 53, 39, 33, 30, 24, 18, 12, 5, 63, 55, 48, 27, 60, 41, 37, 16, 46, 35, 44, 21, 52, 32, 23, 11, 54, 26, 40, 15, 34, 20, 31, 10, 25, 14, 19, 9, 13, 8, 7, 6]

/-- Two package-level variables, of which one is read; the calls that are made by themselves. -/
def E0 : Env := ⟨2, fun g => if g = 1 then some (.row (tab64.map fun n => .int .u8 n) 5 false) else none, fun f => f == 20 || f == 106⟩

noncomputable abbrev rn : Rec := run Tryd.prog E0

variable {R : Type} {h : H} {b o : Nat} {v : Value}
theorem ag0 : aggT Tryd.prog 0 = some false := by kernel_rfl

theorem sz0 : size? Tryd.prog 0 = some 1 := by kernel_rfl

theorem d0 {K : Value → Option R} : ld Tryd.prog h 0 b o K = (h.cell b o).bind K := ld_scS ag0

theorem w0 {K : H → Option R} : st Tryd.prog h 0 b o v K = (wrc 1 h b o v).bind K := st_S sz0

theorem ag1 : aggT Tryd.prog 1 = some false := by kernel_rfl

theorem sz1 : size? Tryd.prog 1 = some 1 := by kernel_rfl

theorem d1 {K : Value → Option R} : ld Tryd.prog h 1 b o K = (h.cell b o).bind K := ld_scS ag1

theorem w1 {K : H → Option R} : st Tryd.prog h 1 b o v K = (wrc 1 h b o v).bind K := st_S sz1

theorem ag2 : aggT Tryd.prog 2 = some false := by kernel_rfl

theorem sz2 : size? Tryd.prog 2 = some 1 := by kernel_rfl

theorem d2 {K : Value → Option R} : ld Tryd.prog h 2 b o K = (h.cell b o).bind K := ld_scS ag2

theorem w2 {K : H → Option R} : st Tryd.prog h 2 b o v K = (wrc 1 h b o v).bind K := st_S sz2

theorem ag3 : aggT Tryd.prog 3 = some false := by kernel_rfl

theorem sz3 : size? Tryd.prog 3 = some 1 := by kernel_rfl

theorem d3 {K : Value → Option R} : ld Tryd.prog h 3 b o K = (h.cell b o).bind K := ld_scS ag3

theorem w3 {K : H → Option R} : st Tryd.prog h 3 b o v K = (wrc 1 h b o v).bind K := st_S sz3

theorem sz4 : size? Tryd.prog 4 = some 1 := by kernel_rfl

theorem w4 {K : H → Option R} : st Tryd.prog h 4 b o v K = (wrc 1 h b o v).bind K := st_S sz4

theorem sz5 : size? Tryd.prog 5 = some 1 := by kernel_rfl

theorem sz6 : size? Tryd.prog 6 = some 1 := by kernel_rfl

theorem w6 {K : H → Option R} : st Tryd.prog h 6 b o v K = (wrc 1 h b o v).bind K := st_S sz6

theorem sz10 : size? Tryd.prog 10 = some 1 := by kernel_rfl

theorem w10 {K : H → Option R} : st Tryd.prog h 10 b o v K = (wrc 1 h b o v).bind K := st_S sz10

theorem ag22 : aggT Tryd.prog 22 = some false := by kernel_rfl

theorem sz22 : size? Tryd.prog 22 = some 1 := by kernel_rfl

theorem d22 {K : Value → Option R} : ld Tryd.prog h 22 b o K = (h.cell b o).bind K := ld_scS ag22

theorem ag23 : aggT Tryd.prog 23 = some false := by kernel_rfl

theorem d23 {K : Value → Option R} : ld Tryd.prog h 23 b o K = (h.cell b o).bind K := ld_scS ag23

theorem sz30 : size? Tryd.prog 30 = some 1 := by kernel_rfl

theorem w30 {K : H → Option R} : st Tryd.prog h 30 b o v K = (wrc 1 h b o v).bind K := st_S sz30

theorem ag32 : aggT Tryd.prog 32 = some true := by kernel_rfl

theorem sz32 : size? Tryd.prog 32 = some 2 := by kernel_rfl

theorem d32 {K : Value → Option R} : ld Tryd.prog h 32 b o K = (h.rd b o 2).bind fun l => K (.agg l.toArray) := ld_agS ag32 sz32

theorem w32 {K : H → Option R} : st Tryd.prog h 32 b o v K = (wrc 2 h b o v).bind K := st_S sz32

theorem ag56 : aggT Tryd.prog 56 = some false := by kernel_rfl

theorem sz56 : size? Tryd.prog 56 = some 1 := by kernel_rfl

theorem d56 {K : Value → Option R} : ld Tryd.prog h 56 b o K = (h.cell b o).bind K := ld_scS ag56

theorem w56 {K : H → Option R} : st Tryd.prog h 56 b o v K = (wrc 1 h b o v).bind K := st_S sz56

theorem ag78 : aggT Tryd.prog 78 = some false := by kernel_rfl

theorem sz78 : size? Tryd.prog 78 = some 1 := by kernel_rfl

theorem d78 {K : Value → Option R} : ld Tryd.prog h 78 b o K = (h.cell b o).bind K := ld_scS ag78

theorem w78 {K : H → Option R} : st Tryd.prog h 78 b o v K = (wrc 1 h b o v).bind K := st_S sz78

theorem ag102 : aggT Tryd.prog 102 = some false := by kernel_rfl

end Go.AM

end

section

/- The staged forms of functions 99, 56, and what calls of these answer. -/
namespace Go.AM
open Go.Proofs
noncomputable def f99_l1 (_rec : Rec) (_k : Nat) (v0 : Value) (v1 : Value) (n0 : Int) (ws0 : List Value) (h1 : H) : Option (Ex × List Value × H) :=
  asI .i64 (gv ws0 1) fun n1 =>
  ifB (lt n1 n0) (
    asK (gv ws0 1) fun n2 =>
    six v1 n2 1 fun b0 b1 =>
    ld Tryd.prog h1 3 b0 b1 fun v2 =>
    asI .i64 v2 fun n3 =>
    ifB (lt n3 0) (
      out .ret [(.bool false), gv ws0 1] h1) (
      len v0 fun n4 =>
      ifB (le n4 n3) (
        out .ret [(.bool false), gv ws0 1] h1) (
        asI .i64 (gv ws0 1) fun n5 =>
        ifB (lt 0 n5) (
          asI .i64 (gv ws0 1) fun n6 =>
          six v1 (sub .i64 n6 1) 1 fun b2 b3 =>
          ld Tryd.prog h1 3 b2 b3 fun v3 =>
          asI .i64 v3 fun n7 =>
          six v0 n7 1 fun b4 b5 =>
          ld Tryd.prog h1 3 b4 b5 fun v4 =>
          asI .i64 v4 fun n8 =>
          nn n3 (
            ifB (eq (and .i64 (shr .i64 n8 n3) 1) 0) (
              out .ret [(.bool false), gv ws0 1] h1) (
              asI .i64 (gv ws0 1) fun n9 =>
              out .normal [gv ws0 0, (.int .i64 (add .i64 n9 1))] h1))) (
          asI .i64 (gv ws0 1) fun n10 =>
          out .normal [gv ws0 0, (.int .i64 (add .i64 n10 1))] h1)))) (
    out (.exit 0) [gv ws0 0, gv ws0 1] h1)

noncomputable def f99 (rec : Rec) (k : Nat) (v0 : Value) (v1 : Value) (h0 : H) : Option (Value × H) :=
  len v1 fun n0 =>
  lp k (f99_l1 rec k v0 v1 n0) [(.bool false), (.int .i64 0)] h0 fun e0 ws1 h2 =>
  onE e0 0 (
    some ((.bool true), h2)) (
    onR e0 (
      some (gv ws1 0, h2)))

theorem e99 (rec : Rec) (k : Nat) (v0 : Value) (v1 : Value) (h : H) : bodyT Tryd.prog E0 SC (XC Tryd.prog rec k) 99 (Value × H) [.opq v0, .opq v1] h (fun v h => some (v, h)) = f99 rec k v0 v1 h := by kernel_rfl

theorem t99 {k : Nat} {v0 : Value} {v1 : Value} {h h1 : H} {v : Value} (hh : f99 rn k v0 v1 h = some (v, h1)) : rn 99 #[v0, v1] h = some (v, trunc Tryd.prog h h1 v) :=
  run_of_bodyT (args := [.opq v0, .opq v1]) rfl ((e99 _ _ _ _ _).trans hh)

theorem p99 {k : Nat} {v0 : Value} {v1 : Value} {h h1 : H} {v : Value} (hh : f99 rn k v0 v1 h = some (v, h1)) (hp : plainO v = true) (x : Ext h h1) : rn 99 #[v0, v1] h = some (v, h) := by rw [t99 hh, trunc_pure hp x]

noncomputable def f56_l2 (_rec : Rec) (_k : Nat) (ws0 : List Value) (v6 : Value) (n7 : Int) (ws1 : List Value) (h3 : H) : Option (Ex × List Value × H) :=
  asI .i64 (gv ws1 2) fun n8 =>
  ifB (lt n8 n7) (
    asK (gv ws1 2) fun n9 =>
    six v6 n9 1 fun b6 b7 =>
    ld Tryd.prog h3 3 b6 b7 fun v7 =>
    asI .i64 v7 fun n10 =>
    asI .i64 (gv ws1 2) fun n11 =>
    ifB (eq n11 0) (
      asI .i64 (gv ws0 3) fun n12 =>
      ifB (lt 0 n12) (
        asI .i64 (gv ws0 1) fun n13 =>
        nn n10 (
          ifB (eq (and .i64 (shr .i64 n13 n10) 1) 0) (
            out .ret [(.bool false), gv ws1 1, gv ws1 2] h3) (
            ifB (not (lt 0 n12)) (
              asI .i64 (gv ws0 1) fun n14 =>
              asI .i64 (gv ws1 1) fun n15 =>
              nn n10 (
                ifB (eq (and .i64 (shr .i64 (or .i64 n14 n15) n10) 1) 1) (
                  out .ret [(.bool false), gv ws1 1, gv ws1 2] h3) (
                  nn n10 (
                    asI .i64 (gv ws1 1) fun n16 =>
                    asI .i64 (gv ws1 2) fun n17 =>
                    out .normal [gv ws1 0, (.int .i64 (or .i64 n16 (shl .i64 1 n10))), (.int .i64 (add .i64 n17 1))] h3)))) (
              nn n10 (
                asI .i64 (gv ws1 1) fun n18 =>
                asI .i64 (gv ws1 2) fun n19 =>
                out .normal [gv ws1 0, (.int .i64 (or .i64 n18 (shl .i64 1 n10))), (.int .i64 (add .i64 n19 1))] h3))))) (
        ifB (not (lt 0 n12)) (
          asI .i64 (gv ws0 1) fun n20 =>
          asI .i64 (gv ws1 1) fun n21 =>
          nn n10 (
            ifB (eq (and .i64 (shr .i64 (or .i64 n20 n21) n10) 1) 1) (
              out .ret [(.bool false), gv ws1 1, gv ws1 2] h3) (
              nn n10 (
                asI .i64 (gv ws1 1) fun n22 =>
                asI .i64 (gv ws1 2) fun n23 =>
                out .normal [gv ws1 0, (.int .i64 (or .i64 n22 (shl .i64 1 n10))), (.int .i64 (add .i64 n23 1))] h3)))) (
          nn n10 (
            asI .i64 (gv ws1 1) fun n24 =>
            asI .i64 (gv ws1 2) fun n25 =>
            out .normal [gv ws1 0, (.int .i64 (or .i64 n24 (shl .i64 1 n10))), (.int .i64 (add .i64 n25 1))] h3)))) (
      asI .i64 (gv ws0 1) fun n26 =>
      asI .i64 (gv ws1 1) fun n27 =>
      nn n10 (
        ifB (eq (and .i64 (shr .i64 (or .i64 n26 n27) n10) 1) 1) (
          out .ret [(.bool false), gv ws1 1, gv ws1 2] h3) (
          nn n10 (
            asI .i64 (gv ws1 1) fun n28 =>
            asI .i64 (gv ws1 2) fun n29 =>
            out .normal [gv ws1 0, (.int .i64 (or .i64 n28 (shl .i64 1 n10))), (.int .i64 (add .i64 n29 1))] h3))))) (
    out (.exit 2) [gv ws1 0, gv ws1 1, gv ws1 2] h3)

noncomputable def f56_l4 (_rec : Rec) (_k : Nat) (ws3 : List Value) (h5 : H) (n45 : Int) (ws4 : List Value) (h8 : H) : Option (Ex × List Value × H) :=
  asI .i64 (gv ws4 1) fun n46 =>
  ifB (lt n46 n45) (
    asK (gv ws4 1) fun n47 =>
    six (gv ws3 1) n47 2 fun b20 b21 =>
    ld Tryd.prog h8 32 b20 b21 fun v15 =>
    al h8 32 [(.int .i64 0), (.int .i64 0)] fun h9 =>
    st Tryd.prog h9 32 (nx h8) 0 v15 fun h10 =>
    ld Tryd.prog h10 32 (nx h8) 0 fun v16 =>
    ld Tryd.prog h10 32 (nx h5) 0 fun v17 =>
    eqv Tryd.prog 32 v16 v17 fun q1 =>
    ifB q1 (
      out .ret [(.bool false), gv ws4 1] h10) (
      asI .i64 (gv ws4 1) fun n48 =>
      out .normal [gv ws4 0, (.int .i64 (add .i64 n48 1))] h10)) (
    out (.exit 6) [gv ws4 0, gv ws4 1] h8)

noncomputable def f56_l3 (rec : Rec) (k : Nat) (v2 : Value) (n3 : Int) (ws3 : List Value) (h5 : H) : Option (Ex × List Value × H) :=
  asI .i64 (gv ws3 2) fun n36 =>
  ifB (lt n36 n3) (
    asI .i64 (gv ws3 2) fun n37 =>
    six v2 (sub .i64 n37 1) 1 fun b12 b13 =>
    ld Tryd.prog h5 3 b12 b13 fun v10 =>
    asI .i64 v10 fun n38 =>
    asK (gv ws3 2) fun n39 =>
    six v2 n39 1 fun b14 b15 =>
    ld Tryd.prog h5 3 b14 b15 fun v11 =>
    asI .i64 v11 fun n40 =>
    asI .i64 (gv ws3 2) fun n41 =>
    six v2 (sub .i64 n41 1) 1 fun b16 b17 =>
    ld Tryd.prog h5 3 b16 b17 fun v12 =>
    asI .i64 v12 fun n42 =>
    asK (gv ws3 2) fun n43 =>
    six v2 n43 1 fun b18 b19 =>
    ld Tryd.prog h5 3 b18 b19 fun v13 =>
    asI .i64 v13 fun n44 =>
    bld Tryd.prog 32 [(0, (.int .i64 (imin n38 n40))), (1, (.int .i64 (imax n42 n44)))] fun v14 =>
    al h5 32 [(.int .i64 0), (.int .i64 0)] fun h6 =>
    ck (freq b18 (nx h5) (same h6 h5)) (
      ck (freq b16 (nx h5) (same h6 h5)) (
        ck (freq b14 (nx h5) (same h6 h5)) (
          ck (freq b12 (nx h5) (same h6 h5)) (
            st Tryd.prog h6 32 (nx h5) 0 v14 fun h7 =>
            len (gv ws3 1) fun n45 =>
            lp k (f56_l4 rec k ws3 h5 n45) [gv ws3 0, (.int .i64 0)] h7 fun e1 ws5 h11 =>
            onE e1 6 (
              ld Tryd.prog h11 32 (nx h5) 0 fun v18 =>
              bls Tryd.prog h11 24 1 [(0, v18)] fun v19 h12 =>
              app Tryd.prog h12 24 24 (gv ws3 1) v19 fun v20 h13 =>
              asI .i64 (gv ws3 2) fun n49 =>
              out .normal [gv ws5 0, v20, (.int .i64 (add .i64 n49 1))] h13) (
              onR e1 (
                out .ret [gv ws5 0, gv ws3 1, gv ws3 2] h11))))))) (
    out (.exit 4) [gv ws3 0, gv ws3 1, gv ws3 2] h5)

noncomputable def f56_l6 (_rec : Rec) (_k : Nat) (ws7 : List Value) (h15 : H) (n62 : Int) (ws8 : List Value) (h18 : H) : Option (Ex × List Value × H) :=
  asI .i64 (gv ws8 1) fun n63 =>
  ifB (lt n63 n62) (
    asK (gv ws8 1) fun n64 =>
    six (gv ws7 1) n64 2 fun b30 b31 =>
    ld Tryd.prog h18 32 b30 b31 fun v26 =>
    al h18 32 [(.int .i64 0), (.int .i64 0)] fun h19 =>
    st Tryd.prog h19 32 (nx h18) 0 v26 fun h20 =>
    ld Tryd.prog h20 32 (nx h18) 0 fun v27 =>
    ld Tryd.prog h20 32 (nx h15) 0 fun v28 =>
    eqv Tryd.prog 32 v27 v28 fun q2 =>
    ifB q2 (
      out .ret [(.bool false), gv ws8 1] h20) (
      asI .i64 (gv ws8 1) fun n65 =>
      out .normal [gv ws8 0, (.int .i64 (add .i64 n65 1))] h20)) (
    out (.exit 6) [gv ws8 0, gv ws8 1] h18)

noncomputable def f56_l5 (rec : Rec) (k : Nat) (v2 : Value) (n3 : Int) (ws7 : List Value) (h15 : H) : Option (Ex × List Value × H) :=
  asI .i64 (gv ws7 2) fun n53 =>
  ifB (lt n53 n3) (
    asI .i64 (gv ws7 2) fun n54 =>
    six v2 (sub .i64 n54 1) 1 fun b22 b23 =>
    ld Tryd.prog h15 3 b22 b23 fun v21 =>
    asI .i64 v21 fun n55 =>
    asK (gv ws7 2) fun n56 =>
    six v2 n56 1 fun b24 b25 =>
    ld Tryd.prog h15 3 b24 b25 fun v22 =>
    asI .i64 v22 fun n57 =>
    asI .i64 (gv ws7 2) fun n58 =>
    six v2 (sub .i64 n58 1) 1 fun b26 b27 =>
    ld Tryd.prog h15 3 b26 b27 fun v23 =>
    asI .i64 v23 fun n59 =>
    asK (gv ws7 2) fun n60 =>
    six v2 n60 1 fun b28 b29 =>
    ld Tryd.prog h15 3 b28 b29 fun v24 =>
    asI .i64 v24 fun n61 =>
    bld Tryd.prog 32 [(0, (.int .i64 (imin n55 n57))), (1, (.int .i64 (imax n59 n61)))] fun v25 =>
    al h15 32 [(.int .i64 0), (.int .i64 0)] fun h16 =>
    ck (freq b28 (nx h15) (same h16 h15)) (
      ck (freq b26 (nx h15) (same h16 h15)) (
        ck (freq b24 (nx h15) (same h16 h15)) (
          ck (freq b22 (nx h15) (same h16 h15)) (
            st Tryd.prog h16 32 (nx h15) 0 v25 fun h17 =>
            len (gv ws7 1) fun n62 =>
            lp k (f56_l6 rec k ws7 h15 n62) [gv ws7 0, (.int .i64 0)] h17 fun e3 ws9 h21 =>
            onE e3 6 (
              ld Tryd.prog h21 32 (nx h15) 0 fun v29 =>
              bls Tryd.prog h21 24 1 [(0, v29)] fun v30 h22 =>
              app Tryd.prog h22 24 24 (gv ws7 1) v30 fun v31 h23 =>
              asI .i64 (gv ws7 2) fun n66 =>
              out .normal [gv ws9 0, v31, (.int .i64 (add .i64 n66 1))] h23) (
              onR e3 (
                out .ret [gv ws9 0, gv ws7 1, gv ws7 2] h21))))))) (
    out (.exit 4) [gv ws7 0, gv ws7 1, gv ws7 2] h15)

noncomputable def f56_l7 (_rec : Rec) (_k : Nat) (ws0 : List Value) (v32 : Value) (n68 : Int) (ws11 : List Value) (h25 : H) : Option (Ex × List Value × H) :=
  asI .i64 (gv ws11 2) fun n69 =>
  ifB (lt n69 n68) (
    asK (gv ws11 2) fun n70 =>
    six v32 n70 1 fun b32 b33 =>
    ld Tryd.prog h25 3 b32 b33 fun v33 =>
    asI .i64 v33 fun n71 =>
    asI .i64 (gv ws11 2) fun n72 =>
    ifB (eq n72 0) (
      asI .i64 (gv ws0 3) fun n73 =>
      ifB (lt 0 n73) (
        asI .i64 (gv ws0 1) fun n74 =>
        nn n71 (
          ifB (eq (and .i64 (shr .i64 n74 n71) 1) 0) (
            out .ret [(.bool false), gv ws11 1, gv ws11 2] h25) (
            ifB (not (lt 0 n73)) (
              asI .i64 (gv ws0 1) fun n75 =>
              asI .i64 (gv ws11 1) fun n76 =>
              nn n71 (
                ifB (eq (and .i64 (shr .i64 (or .i64 n75 n76) n71) 1) 1) (
                  out .ret [(.bool false), gv ws11 1, gv ws11 2] h25) (
                  nn n71 (
                    asI .i64 (gv ws11 1) fun n77 =>
                    asI .i64 (gv ws11 2) fun n78 =>
                    out .normal [gv ws11 0, (.int .i64 (or .i64 n77 (shl .i64 1 n71))), (.int .i64 (add .i64 n78 1))] h25)))) (
              nn n71 (
                asI .i64 (gv ws11 1) fun n79 =>
                asI .i64 (gv ws11 2) fun n80 =>
                out .normal [gv ws11 0, (.int .i64 (or .i64 n79 (shl .i64 1 n71))), (.int .i64 (add .i64 n80 1))] h25))))) (
        ifB (not (lt 0 n73)) (
          asI .i64 (gv ws0 1) fun n81 =>
          asI .i64 (gv ws11 1) fun n82 =>
          nn n71 (
            ifB (eq (and .i64 (shr .i64 (or .i64 n81 n82) n71) 1) 1) (
              out .ret [(.bool false), gv ws11 1, gv ws11 2] h25) (
              nn n71 (
                asI .i64 (gv ws11 1) fun n83 =>
                asI .i64 (gv ws11 2) fun n84 =>
                out .normal [gv ws11 0, (.int .i64 (or .i64 n83 (shl .i64 1 n71))), (.int .i64 (add .i64 n84 1))] h25)))) (
          nn n71 (
            asI .i64 (gv ws11 1) fun n85 =>
            asI .i64 (gv ws11 2) fun n86 =>
            out .normal [gv ws11 0, (.int .i64 (or .i64 n85 (shl .i64 1 n71))), (.int .i64 (add .i64 n86 1))] h25)))) (
      asI .i64 (gv ws0 1) fun n87 =>
      asI .i64 (gv ws11 1) fun n88 =>
      nn n71 (
        ifB (eq (and .i64 (shr .i64 (or .i64 n87 n88) n71) 1) 1) (
          out .ret [(.bool false), gv ws11 1, gv ws11 2] h25) (
          nn n71 (
            asI .i64 (gv ws11 1) fun n89 =>
            asI .i64 (gv ws11 2) fun n90 =>
            out .normal [gv ws11 0, (.int .i64 (or .i64 n89 (shl .i64 1 n71))), (.int .i64 (add .i64 n90 1))] h25))))) (
    out (.exit 2) [gv ws11 0, gv ws11 1, gv ws11 2] h25)

noncomputable def f56_l9 (_rec : Rec) (_k : Nat) (ws13 : List Value) (h27 : H) (n106 : Int) (ws14 : List Value) (h30 : H) : Option (Ex × List Value × H) :=
  asI .i64 (gv ws14 1) fun n107 =>
  ifB (lt n107 n106) (
    asK (gv ws14 1) fun n108 =>
    six (gv ws13 1) n108 2 fun b46 b47 =>
    ld Tryd.prog h30 32 b46 b47 fun v41 =>
    al h30 32 [(.int .i64 0), (.int .i64 0)] fun h31 =>
    st Tryd.prog h31 32 (nx h30) 0 v41 fun h32 =>
    ld Tryd.prog h32 32 (nx h30) 0 fun v42 =>
    ld Tryd.prog h32 32 (nx h27) 0 fun v43 =>
    eqv Tryd.prog 32 v42 v43 fun q3 =>
    ifB q3 (
      out .ret [(.bool false), gv ws14 1] h32) (
      asI .i64 (gv ws14 1) fun n109 =>
      out .normal [gv ws14 0, (.int .i64 (add .i64 n109 1))] h32)) (
    out (.exit 6) [gv ws14 0, gv ws14 1] h30)

noncomputable def f56_l8 (rec : Rec) (k : Nat) (v2 : Value) (n3 : Int) (ws13 : List Value) (h27 : H) : Option (Ex × List Value × H) :=
  asI .i64 (gv ws13 2) fun n97 =>
  ifB (lt n97 n3) (
    asI .i64 (gv ws13 2) fun n98 =>
    six v2 (sub .i64 n98 1) 1 fun b38 b39 =>
    ld Tryd.prog h27 3 b38 b39 fun v36 =>
    asI .i64 v36 fun n99 =>
    asK (gv ws13 2) fun n100 =>
    six v2 n100 1 fun b40 b41 =>
    ld Tryd.prog h27 3 b40 b41 fun v37 =>
    asI .i64 v37 fun n101 =>
    asI .i64 (gv ws13 2) fun n102 =>
    six v2 (sub .i64 n102 1) 1 fun b42 b43 =>
    ld Tryd.prog h27 3 b42 b43 fun v38 =>
    asI .i64 v38 fun n103 =>
    asK (gv ws13 2) fun n104 =>
    six v2 n104 1 fun b44 b45 =>
    ld Tryd.prog h27 3 b44 b45 fun v39 =>
    asI .i64 v39 fun n105 =>
    bld Tryd.prog 32 [(0, (.int .i64 (imin n99 n101))), (1, (.int .i64 (imax n103 n105)))] fun v40 =>
    al h27 32 [(.int .i64 0), (.int .i64 0)] fun h28 =>
    ck (freq b44 (nx h27) (same h28 h27)) (
      ck (freq b42 (nx h27) (same h28 h27)) (
        ck (freq b40 (nx h27) (same h28 h27)) (
          ck (freq b38 (nx h27) (same h28 h27)) (
            st Tryd.prog h28 32 (nx h27) 0 v40 fun h29 =>
            len (gv ws13 1) fun n106 =>
            lp k (f56_l9 rec k ws13 h27 n106) [gv ws13 0, (.int .i64 0)] h29 fun e6 ws15 h33 =>
            onE e6 6 (
              ld Tryd.prog h33 32 (nx h27) 0 fun v44 =>
              bls Tryd.prog h33 24 1 [(0, v44)] fun v45 h34 =>
              app Tryd.prog h34 24 24 (gv ws13 1) v45 fun v46 h35 =>
              asI .i64 (gv ws13 2) fun n110 =>
              out .normal [gv ws15 0, v46, (.int .i64 (add .i64 n110 1))] h35) (
              onR e6 (
                out .ret [gv ws15 0, gv ws13 1, gv ws13 2] h33))))))) (
    out (.exit 4) [gv ws13 0, gv ws13 1, gv ws13 2] h27)

noncomputable def f56_l11 (_rec : Rec) (_k : Nat) (ws17 : List Value) (h37 : H) (n123 : Int) (ws18 : List Value) (h40 : H) : Option (Ex × List Value × H) :=
  asI .i64 (gv ws18 1) fun n124 =>
  ifB (lt n124 n123) (
    asK (gv ws18 1) fun n125 =>
    six (gv ws17 1) n125 2 fun b56 b57 =>
    ld Tryd.prog h40 32 b56 b57 fun v52 =>
    al h40 32 [(.int .i64 0), (.int .i64 0)] fun h41 =>
    st Tryd.prog h41 32 (nx h40) 0 v52 fun h42 =>
    ld Tryd.prog h42 32 (nx h40) 0 fun v53 =>
    ld Tryd.prog h42 32 (nx h37) 0 fun v54 =>
    eqv Tryd.prog 32 v53 v54 fun q4 =>
    ifB q4 (
      out .ret [(.bool false), gv ws18 1] h42) (
      asI .i64 (gv ws18 1) fun n126 =>
      out .normal [gv ws18 0, (.int .i64 (add .i64 n126 1))] h42)) (
    out (.exit 6) [gv ws18 0, gv ws18 1] h40)

noncomputable def f56_l10 (rec : Rec) (k : Nat) (v2 : Value) (n3 : Int) (ws17 : List Value) (h37 : H) : Option (Ex × List Value × H) :=
  asI .i64 (gv ws17 2) fun n114 =>
  ifB (lt n114 n3) (
    asI .i64 (gv ws17 2) fun n115 =>
    six v2 (sub .i64 n115 1) 1 fun b48 b49 =>
    ld Tryd.prog h37 3 b48 b49 fun v47 =>
    asI .i64 v47 fun n116 =>
    asK (gv ws17 2) fun n117 =>
    six v2 n117 1 fun b50 b51 =>
    ld Tryd.prog h37 3 b50 b51 fun v48 =>
    asI .i64 v48 fun n118 =>
    asI .i64 (gv ws17 2) fun n119 =>
    six v2 (sub .i64 n119 1) 1 fun b52 b53 =>
    ld Tryd.prog h37 3 b52 b53 fun v49 =>
    asI .i64 v49 fun n120 =>
    asK (gv ws17 2) fun n121 =>
    six v2 n121 1 fun b54 b55 =>
    ld Tryd.prog h37 3 b54 b55 fun v50 =>
    asI .i64 v50 fun n122 =>
    bld Tryd.prog 32 [(0, (.int .i64 (imin n116 n118))), (1, (.int .i64 (imax n120 n122)))] fun v51 =>
    al h37 32 [(.int .i64 0), (.int .i64 0)] fun h38 =>
    ck (freq b54 (nx h37) (same h38 h37)) (
      ck (freq b52 (nx h37) (same h38 h37)) (
        ck (freq b50 (nx h37) (same h38 h37)) (
          ck (freq b48 (nx h37) (same h38 h37)) (
            st Tryd.prog h38 32 (nx h37) 0 v51 fun h39 =>
            len (gv ws17 1) fun n123 =>
            lp k (f56_l11 rec k ws17 h37 n123) [gv ws17 0, (.int .i64 0)] h39 fun e8 ws19 h43 =>
            onE e8 6 (
              ld Tryd.prog h43 32 (nx h37) 0 fun v55 =>
              bls Tryd.prog h43 24 1 [(0, v55)] fun v56 h44 =>
              app Tryd.prog h44 24 24 (gv ws17 1) v56 fun v57 h45 =>
              asI .i64 (gv ws17 2) fun n127 =>
              out .normal [gv ws19 0, v57, (.int .i64 (add .i64 n127 1))] h45) (
              onR e8 (
                out .ret [gv ws19 0, gv ws17 1, gv ws17 2] h43))))))) (
    out (.exit 4) [gv ws17 0, gv ws17 1, gv ws17 2] h37)

noncomputable def f56_l1 (rec : Rec) (k : Nat) (v0 : Value) (v1 : Value) (n0 : Int) (ws0 : List Value) (h1 : H) : Option (Ex × List Value × H) :=
  asI .i64 (gv ws0 3) fun n1 =>
  ifB (lt n1 n0) (
    asK (gv ws0 3) fun n2 =>
    six v1 n2 1 fun b0 b1 =>
    ld Tryd.prog h1 22 b0 b1 fun v2 =>
    len v2 fun n3 =>
    ifB (lt n3 2) (
      out .ret [(.bool false), gv ws0 1, gv ws0 2, gv ws0 3] h1) (
      calls rec h1 99 [v0, v2] fun v3 h2 =>
      asB v3 fun q0 =>
      ifB (not q0) (
        out .ret [(.bool false), gv ws0 1, gv ws0 2, gv ws0 3] h2) (
        asI .i64 (gv ws0 3) fun n4 =>
        ifB (eq n4 0) (
          ifB (lt n3 4) (
            out .ret [(.bool false), gv ws0 1, gv ws0 2, gv ws0 3] h2) (
            six v2 0 1 fun b2 b3 =>
            ld Tryd.prog h2 3 b2 b3 fun v4 =>
            asI .i64 v4 fun n5 =>
            six v2 (sub .i64 n3 1) 1 fun b4 b5 =>
            ld Tryd.prog h2 3 b4 b5 fun v5 =>
            asI .i64 v5 fun n6 =>
            ifB (not (eq n5 n6)) (
              out .ret [(.bool false), gv ws0 1, gv ws0 2, gv ws0 3] h2) (
              sli Tryd.prog h2 22 v2 none (some (.int .i64 (sub .i64 n3 1))) none fun v6 =>
              len v6 fun n7 =>
              lp k (f56_l2 rec k ws0 v6 n7) [gv ws0 0, (.int .i64 0), (.int .i64 0)] h2 fun e0 ws2 h4 =>
              onE e0 2 (
                six v2 (sub .i64 n3 1) 1 fun b8 b9 =>
                ld Tryd.prog h4 3 b8 b9 fun v8 =>
                asI .i64 v8 fun n30 =>
                asI .i64 (gv ws0 3) fun n31 =>
                ifB (lt 0 n31) (
                  asI .i64 (gv ws0 1) fun n32 =>
                  nn n30 (
                    ifB (eq (and .i64 (shr .i64 n32 n30) 1) 0) (
                      out .ret [(.bool false), gv ws0 1, gv ws0 2, gv ws0 3] h4) (
                      six v2 0 1 fun b10 b11 =>
                      ld Tryd.prog h4 3 b10 b11 fun v9 =>
                      asI .i64 v9 fun n33 =>
                      ifB (eq n30 n33) (
                        out .ret [(.bool false), gv ws0 1, gv ws0 2, gv ws0 3] h4) (
                        asI .i64 (gv ws0 1) fun n34 =>
                        asI .i64 (gv ws2 1) fun n35 =>
                        lp k (f56_l3 rec k v2 n3) [gv ws2 0, gv ws0 2, (.int .i64 1)] h4 fun e2 ws6 h14 =>
                        onE e2 4 (
                          asI .i64 (gv ws0 3) fun n50 =>
                          out .normal [gv ws6 0, (.int .i64 (or .i64 n34 n35)), gv ws6 1, (.int .i64 (add .i64 n50 1))] h14) (
                          onR e2 (
                            out .ret [gv ws6 0, (.int .i64 (or .i64 n34 n35)), gv ws6 1, gv ws0 3] h14)))))) (
                  asI .i64 (gv ws0 1) fun n51 =>
                  asI .i64 (gv ws2 1) fun n52 =>
                  lp k (f56_l5 rec k v2 n3) [gv ws2 0, gv ws0 2, (.int .i64 1)] h4 fun e4 ws10 h24 =>
                  onE e4 4 (
                    asI .i64 (gv ws0 3) fun n67 =>
                    out .normal [gv ws10 0, (.int .i64 (or .i64 n51 n52)), gv ws10 1, (.int .i64 (add .i64 n67 1))] h24) (
                    onR e4 (
                      out .ret [gv ws10 0, (.int .i64 (or .i64 n51 n52)), gv ws10 1, gv ws0 3] h24)))) (
                onR e0 (
                  out .ret [gv ws2 0, gv ws0 1, gv ws0 2, gv ws0 3] h4))))) (
          sli Tryd.prog h2 22 v2 none (some (.int .i64 (sub .i64 n3 1))) none fun v32 =>
          len v32 fun n68 =>
          lp k (f56_l7 rec k ws0 v32 n68) [gv ws0 0, (.int .i64 0), (.int .i64 0)] h2 fun e5 ws12 h26 =>
          onE e5 2 (
            six v2 (sub .i64 n3 1) 1 fun b34 b35 =>
            ld Tryd.prog h26 3 b34 b35 fun v34 =>
            asI .i64 v34 fun n91 =>
            asI .i64 (gv ws0 3) fun n92 =>
            ifB (lt 0 n92) (
              asI .i64 (gv ws0 1) fun n93 =>
              nn n91 (
                ifB (eq (and .i64 (shr .i64 n93 n91) 1) 0) (
                  out .ret [(.bool false), gv ws0 1, gv ws0 2, gv ws0 3] h26) (
                  six v2 0 1 fun b36 b37 =>
                  ld Tryd.prog h26 3 b36 b37 fun v35 =>
                  asI .i64 v35 fun n94 =>
                  ifB (eq n91 n94) (
                    out .ret [(.bool false), gv ws0 1, gv ws0 2, gv ws0 3] h26) (
                    asI .i64 (gv ws0 1) fun n95 =>
                    asI .i64 (gv ws12 1) fun n96 =>
                    lp k (f56_l8 rec k v2 n3) [gv ws12 0, gv ws0 2, (.int .i64 1)] h26 fun e7 ws16 h36 =>
                    onE e7 4 (
                      asI .i64 (gv ws0 3) fun n111 =>
                      out .normal [gv ws16 0, (.int .i64 (or .i64 n95 n96)), gv ws16 1, (.int .i64 (add .i64 n111 1))] h36) (
                      onR e7 (
                        out .ret [gv ws16 0, (.int .i64 (or .i64 n95 n96)), gv ws16 1, gv ws0 3] h36)))))) (
              asI .i64 (gv ws0 1) fun n112 =>
              asI .i64 (gv ws12 1) fun n113 =>
              lp k (f56_l10 rec k v2 n3) [gv ws12 0, gv ws0 2, (.int .i64 1)] h26 fun e9 ws20 h46 =>
              onE e9 4 (
                asI .i64 (gv ws0 3) fun n128 =>
                out .normal [gv ws20 0, (.int .i64 (or .i64 n112 n113)), gv ws20 1, (.int .i64 (add .i64 n128 1))] h46) (
                onR e9 (
                  out .ret [gv ws20 0, (.int .i64 (or .i64 n112 n113)), gv ws20 1, gv ws0 3] h46)))) (
            onR e5 (
              out .ret [gv ws12 0, gv ws0 1, gv ws0 2, gv ws0 3] h26)))))) (
    out (.exit 0) [gv ws0 0, gv ws0 1, gv ws0 2, gv ws0 3] h1)

noncomputable def f56 (rec : Rec) (k : Nat) (v0 : Value) (v1 : Value) (h0 : H) : Option (Value × H) :=
  len v1 fun n0 =>
  lp k (f56_l1 rec k v0 v1 n0) [(.bool false), (.int .i64 0), (.slice none 0 0), (.int .i64 0)] h0 fun e10 ws21 h47 =>
  onE e10 0 (
    len v1 fun n129 =>
    ifB (lt 0 n129) (
      calls rec h47 68 [v0] fun v58 h48 =>
      asI .i64 v58 fun n130 =>
      asI .i64 (gv ws21 1) fun n131 =>
      ifB (eq n131 n130) (
        len (gv ws21 2) fun n132 =>
        calls rec h48 71 [v0] fun v59 h49 =>
        len v59 fun n133 =>
        some ((.bool (eq n132 n133)), h49)) (
        some ((.bool false), h48))) (
      some ((.bool false), h47))) (
    onR e10 (
      some (gv ws21 0, h47)))

theorem e56 (rec : Rec) (k : Nat) (v0 : Value) (v1 : Value) (h : H) : bodyT Tryd.prog E0 SC (XC Tryd.prog rec k) 56 (Value × H) [.opq v0, .opq v1] h (fun v h => some (v, h)) = f56 rec k v0 v1 h := by kernel_rfl

theorem t56 {k : Nat} {v0 : Value} {v1 : Value} {h h1 : H} {v : Value} (hh : f56 rn k v0 v1 h = some (v, h1)) : rn 56 #[v0, v1] h = some (v, trunc Tryd.prog h h1 v) :=
  run_of_bodyT (args := [.opq v0, .opq v1]) rfl ((e56 _ _ _ _ _).trans hh)

theorem p56 {k : Nat} {v0 : Value} {v1 : Value} {h h1 : H} {v : Value} (hh : f56 rn k v0 v1 h = some (v, h1)) (hp : plainO v = true) (x : Ext h h1) : rn 56 #[v0, v1] h = some (v, h) := by rw [t56 hh, trunc_pure hp x]

end Go.AM

end

section

/- The staged forms of functions 4, 23, 24, 25, 26, 69, 70, 71, 72, 73, 74, 77, 87, 102, 103, 115, and what calls of these answer. -/
namespace Go.AM
open Go.Proofs
noncomputable def f4 (rec : Rec) (_k : Nat) (v0 : Value) (h0 : H) : Option (Value × H) :=
  calls rec h0 18 [v0] fun v1 h1 =>
  calls rec h1 23 [v1] fun v2 h2 =>
  ext v2 0 fun v3 =>
  ext v2 1 fun v4 =>
  asI .i64 v4 fun n0 =>
  calls rec h2 18 [v0] fun v5 h3 =>
  calls rec h3 24 [v5] fun v6 h4 =>
  ext v6 0 fun v7 =>
  asI .i64 v7 fun n1 =>
  ext v6 1 fun v8 =>
  asI .i64 v8 fun n2 =>
  calls rec h4 19 [v0] fun v9 h5 =>
  asB v9 fun q0 =>
  ifB (not q0) (
    len v3 fun n3 =>
    ifB (eq n3 0) (
      ifB (eq n1 0) (
        ifB (eq n0 2) (
          ifB (eq n2 2) (
            calls rec h5 20 [] fun v10 h6 =>
            asB v10 fun q1 =>
            some ((.bool q1), h6)) (
            some ((.bool false), h5))) (
          some ((.bool false), h5))) (
        some ((.bool false), h5))) (
      some ((.bool false), h5))) (
    calls rec h5 25 [v0] fun v11 h7 =>
    calls rec h7 21 [v3, v11] fun v12 h8 =>
    asB v12 fun q2 =>
    ifB q2 (
      calls rec h8 26 [v0] fun v13 h9 =>
      asI .i64 v13 fun n4 =>
      ifB (eq n1 n4) (
        ifB (eq n0 0) (
          ifB (eq n2 0) (
            calls rec h9 20 [] fun v14 h10 =>
            asB v14 fun q3 =>
            some ((.bool q3), h10)) (
            some ((.bool false), h9))) (
          some ((.bool false), h9))) (
        some ((.bool false), h9))) (
      some ((.bool false), h8)))

theorem e4 (rec : Rec) (k : Nat) (v0 : Value) (h : H) : bodyT Tryd.prog E0 SC (XC Tryd.prog rec k) 4 (Value × H) [.opq v0] h (fun v h => some (v, h)) = f4 rec k v0 h := by kernel_rfl

theorem t4 {k : Nat} {v0 : Value} {h h1 : H} {v : Value} (hh : f4 rn k v0 h = some (v, h1)) : rn 4 #[v0] h = some (v, trunc Tryd.prog h h1 v) :=
  run_of_bodyT (args := [.opq v0]) rfl ((e4 _ _ _ _).trans hh)

theorem p4 {k : Nat} {v0 : Value} {h h1 : H} {v : Value} (hh : f4 rn k v0 h = some (v, h1)) (hp : plainO v = true) (x : Ext h h1) : rn 4 #[v0] h = some (v, h) := by rw [t4 hh, trunc_pure hp x]

theorem x4 {k : Nat} {v0 : Value} {h h1 : H} {v : Value} (hh : f4 rn k v0 h = some (v, h1)) (hp : plainO v = false) : ∃ h2, rn 4 #[v0] h = some (v, h2) ∧ Sm h1 h2 ∧ (Ext h h1 → Exw h h2) := trunc_cell hp (t4 hh)

noncomputable def f24 (rec : Rec) (_k : Nat) (v0 : Value) (h0 : H) : Option (Value × H) :=
  calls rec h0 63 [v0] fun v1 h1 =>
  ext v1 0 fun v2 =>
  ext v1 1 fun v3 =>
  asB v3 fun q0 =>
  ifB (not q0) (
    some ((.tuple #[(.int .i64 0), (.int .i64 2)]), h1)) (
    calls rec h1 65 [v2] fun v4 h2 =>
    asI .i64 v4 fun n0 =>
    calls rec h2 70 [v2, (.int .i64 n0)] fun v5 h3 =>
    asI .i64 v5 fun n1 =>
    some ((.tuple #[(.int .i64 n1), (.int .i64 0)]), h3))

theorem e24 (rec : Rec) (k : Nat) (v0 : Value) (h : H) : bodyT Tryd.prog E0 SC (XC Tryd.prog rec k) 24 (Value × H) [.opq v0] h (fun v h => some (v, h)) = f24 rec k v0 h := by kernel_rfl

theorem t24 {k : Nat} {v0 : Value} {h h1 : H} {v : Value} (hh : f24 rn k v0 h = some (v, h1)) : rn 24 #[v0] h = some (v, trunc Tryd.prog h h1 v) :=
  run_of_bodyT (args := [.opq v0]) rfl ((e24 _ _ _ _).trans hh)

theorem x24 {k : Nat} {v0 : Value} {h h1 : H} {v : Value} (hh : f24 rn k v0 h = some (v, h1)) (hp : plainO v = false) : ∃ h2, rn 24 #[v0] h = some (v, h2) ∧ Sm h1 h2 ∧ (Ext h h1 → Exw h h2) := trunc_cell hp (t24 hh)

noncomputable def f26 (rec : Rec) (_k : Nat) (v0 : Value) (h0 : H) : Option (Value × H) :=
  calls rec h0 68 [v0] fun v1 h1 =>
  asI .i64 v1 fun n0 =>
  calls rec h1 74 [v0, (.int .i64 n0)] fun v2 h2 =>
  asI .i64 v2 fun n1 =>
  some ((.int .i64 n1), h2)

theorem e26 (rec : Rec) (k : Nat) (v0 : Value) (h : H) : bodyT Tryd.prog E0 SC (XC Tryd.prog rec k) 26 (Value × H) [.opq v0] h (fun v h => some (v, h)) = f26 rec k v0 h := by kernel_rfl

theorem t26 {k : Nat} {v0 : Value} {h h1 : H} {v : Value} (hh : f26 rn k v0 h = some (v, h1)) : rn 26 #[v0] h = some (v, trunc Tryd.prog h h1 v) :=
  run_of_bodyT (args := [.opq v0]) rfl ((e26 _ _ _ _).trans hh)

theorem p26 {k : Nat} {v0 : Value} {h h1 : H} {v : Value} (hh : f26 rn k v0 h = some (v, h1)) (hp : plainO v = true) (x : Ext h h1) : rn 26 #[v0] h = some (v, h) := by rw [t26 hh, trunc_pure hp x]

noncomputable def f70_l1 (rec : Rec) (_k : Nat) (v0 : Value) (n0 : Int) (v1 : Value) (n1 : Int) (ws0 : List Value) (h2 : H) : Option (Ex × List Value × H) :=
  asI .i64 (gv ws0 1) fun n2 =>
  ifB (lt n2 n1) (
    asK (gv ws0 1) fun n3 =>
    six v1 n3 1 fun b0 b1 =>
    ld Tryd.prog h2 3 b0 b1 fun v2 =>
    asI .i64 v2 fun n4 =>
    calls rec h2 78 [v0, (.int .i64 n4), (.int .i64 n0)] fun v3 h3 =>
    asI .i64 v3 fun n5 =>
    nn n4 (
      calls rec h3 64 [v0, (.int .i64 (andNot .i64 n5 (shl .i64 1 n4)))] fun v4 h4 =>
      asB v4 fun q0 =>
      ifB (not q0) (
        nn n4 (
          asI .i64 (gv ws0 0) fun n6 =>
          asI .i64 (gv ws0 1) fun n7 =>
          out .normal [(.int .i64 (or .i64 n6 (shl .i64 1 n4))), (.int .i64 (add .i64 n7 1))] h4)) (
        asI .i64 (gv ws0 1) fun n8 =>
        out .normal [gv ws0 0, (.int .i64 (add .i64 n8 1))] h4))) (
    out (.exit 0) [gv ws0 0, gv ws0 1] h2)

noncomputable def f70 (rec : Rec) (k : Nat) (v0 : Value) (n0 : Int) (h0 : H) : Option (Value × H) :=
  calls rec h0 76 [(.int .i64 n0)] fun v1 h1 =>
  len v1 fun n1 =>
  lp k (f70_l1 rec k v0 n0 v1 n1) [(.int .i64 0), (.int .i64 0)] h1 fun e0 ws1 h5 =>
  onE e0 0 (
    some (gv ws1 0, h5)) (
    none)

theorem e70 (rec : Rec) (k : Nat) (v0 : Value) (n0 : Int) (h : H) : bodyT Tryd.prog E0 SC (XC Tryd.prog rec k) 70 (Value × H) [.opq v0, .int .i64 n0] h (fun v h => some (v, h)) = f70 rec k v0 n0 h := by kernel_rfl

theorem t70 {k : Nat} {v0 : Value} {n0 : Int} {h h1 : H} {v : Value} (hh : f70 rn k v0 n0 h = some (v, h1)) : rn 70 #[v0, .int .i64 n0] h = some (v, trunc Tryd.prog h h1 v) :=
  run_of_bodyT (args := [.opq v0, .int .i64 n0]) rfl ((e70 _ _ _ _ _).trans hh)

theorem p70 {k : Nat} {v0 : Value} {n0 : Int} {h h1 : H} {v : Value} (hh : f70 rn k v0 n0 h = some (v, h1)) (hp : plainO v = true) (x : Ext h h1) : rn 70 #[v0, .int .i64 n0] h = some (v, h) := by rw [t70 hh, trunc_pure hp x]

noncomputable def f71_l2 (_rec : Rec) (_k : Nat) (v0 : Value) (ws0 : List Value) (ws1 : List Value) (h2 : H) : Option (Ex × List Value × H) :=
  len v0 fun n3 =>
  asI .i64 (gv ws1 1) fun n4 =>
  ifB (lt n4 n3) (
    asK (gv ws0 1) fun n5 =>
    six v0 n5 1 fun b0 b1 =>
    ld Tryd.prog h2 3 b0 b1 fun v1 =>
    asI .i64 v1 fun n6 =>
    asK (gv ws1 1) fun n7 =>
    nn n7 (
      ifB (eq (and .i64 (shr .i64 n6 n7) 1) 1) (
        bld Tryd.prog 32 [(0, gv ws0 1), (1, gv ws1 1)] fun v2 =>
        bls Tryd.prog h2 24 1 [(0, v2)] fun v3 h3 =>
        app Tryd.prog h3 24 24 (gv ws1 0) v3 fun v4 h4 =>
        asI .i64 (gv ws1 1) fun n8 =>
        out .normal [v4, (.int .i64 (add .i64 n8 1))] h4) (
        asI .i64 (gv ws1 1) fun n9 =>
        out .normal [gv ws1 0, (.int .i64 (add .i64 n9 1))] h2))) (
    out (.exit 2) [gv ws1 0, gv ws1 1] h2)

noncomputable def f71_l1 (rec : Rec) (k : Nat) (v0 : Value) (n0 : Int) (ws0 : List Value) (h1 : H) : Option (Ex × List Value × H) :=
  asI .i64 (gv ws0 1) fun n1 =>
  ifB (lt n1 n0) (
    asI .i64 (gv ws0 1) fun n2 =>
    lp k (f71_l2 rec k v0 ws0) [gv ws0 0, (.int .i64 (add .i64 n2 1))] h1 fun e0 ws2 h5 =>
    onE e0 2 (
      asI .i64 (gv ws0 1) fun n10 =>
      out .normal [gv ws2 0, (.int .i64 (add .i64 n10 1))] h5) (
      none)) (
    out (.exit 0) [gv ws0 0, gv ws0 1] h1)

noncomputable def f71 (rec : Rec) (k : Nat) (v0 : Value) (h0 : H) : Option (Value × H) :=
  len v0 fun n0 =>
  lp k (f71_l1 rec k v0 n0) [(.slice none 0 0), (.int .i64 0)] h0 fun e1 ws3 h6 =>
  onE e1 0 (
    some (gv ws3 0, h6)) (
    none)

theorem e71 (rec : Rec) (k : Nat) (v0 : Value) (h : H) : bodyT Tryd.prog E0 SC (XC Tryd.prog rec k) 71 (Value × H) [.opq v0] h (fun v h => some (v, h)) = f71 rec k v0 h := by kernel_rfl

theorem t71 {k : Nat} {v0 : Value} {h h1 : H} {v : Value} (hh : f71 rn k v0 h = some (v, h1)) : rn 71 #[v0] h = some (v, trunc Tryd.prog h h1 v) :=
  run_of_bodyT (args := [.opq v0]) rfl ((e71 _ _ _ _).trans hh)

theorem x71 {k : Nat} {v0 : Value} {h h1 : H} {v : Value} (hh : f71 rn k v0 h = some (v, h1)) (hp : plainO v = false) : ∃ h2, rn 71 #[v0] h = some (v, h2) ∧ Sm h1 h2 ∧ (Ext h h1 → Exw h h2) := trunc_cell hp (t71 hh)

noncomputable def f74_l1 (rec : Rec) (_k : Nat) (v0 : Value) (n0 : Int) (n1 : Int) (ws0 : List Value) (h1 : H) : Option (Ex × List Value × H) :=
  asI .i64 (gv ws0 1) fun n2 =>
  ifB (lt n2 n1) (
    calls rec h1 33 [v0, (.int .i64 n0), gv ws0 1] fun v1 h2 =>
    asI .i64 v1 fun n3 =>
    asK (gv ws0 1) fun n4 =>
    nn n4 (
      asK (gv ws0 1) fun n5 =>
      nn n5 (
        ifB (eq (and .i64 (shr .i64 n0 n5) 1) 1) (
          ifB (not (eq (andNot .i64 n3 (shl .i64 1 n4)) 0)) (
            calls rec h2 67 [v0, (.int .i64 (andNot .i64 n3 (shl .i64 1 n4)))] fun v2 h3 =>
            asB v2 fun q0 =>
            ifB (not q0) (
              asK (gv ws0 1) fun n6 =>
              nn n6 (
                asI .i64 (gv ws0 0) fun n7 =>
                asI .i64 (gv ws0 1) fun n8 =>
                out .normal [(.int .i64 (or .i64 n7 (shl .i64 1 n6))), (.int .i64 (add .i64 n8 1))] h3)) (
              asI .i64 (gv ws0 1) fun n9 =>
              out .normal [gv ws0 0, (.int .i64 (add .i64 n9 1))] h3)) (
            asI .i64 (gv ws0 1) fun n10 =>
            out .normal [gv ws0 0, (.int .i64 (add .i64 n10 1))] h2)) (
          asI .i64 (gv ws0 1) fun n11 =>
          out .normal [gv ws0 0, (.int .i64 (add .i64 n11 1))] h2)))) (
    out (.exit 0) [gv ws0 0, gv ws0 1] h1)

noncomputable def f74 (rec : Rec) (k : Nat) (v0 : Value) (n0 : Int) (h0 : H) : Option (Value × H) :=
  len v0 fun n1 =>
  lp k (f74_l1 rec k v0 n0 n1) [(.int .i64 0), (.int .i64 0)] h0 fun e0 ws1 h4 =>
  onE e0 0 (
    some (gv ws1 0, h4)) (
    none)

theorem e74 (rec : Rec) (k : Nat) (v0 : Value) (n0 : Int) (h : H) : bodyT Tryd.prog E0 SC (XC Tryd.prog rec k) 74 (Value × H) [.opq v0, .int .i64 n0] h (fun v h => some (v, h)) = f74 rec k v0 n0 h := by kernel_rfl

theorem t74 {k : Nat} {v0 : Value} {n0 : Int} {h h1 : H} {v : Value} (hh : f74 rn k v0 n0 h = some (v, h1)) : rn 74 #[v0, .int .i64 n0] h = some (v, trunc Tryd.prog h h1 v) :=
  run_of_bodyT (args := [.opq v0, .int .i64 n0]) rfl ((e74 _ _ _ _ _).trans hh)

theorem p74 {k : Nat} {v0 : Value} {n0 : Int} {h h1 : H} {v : Value} (hh : f74 rn k v0 n0 h = some (v, h1)) (hp : plainO v = true) (x : Ext h h1) : rn 74 #[v0, .int .i64 n0] h = some (v, h) := by rw [t74 hh, trunc_pure hp x]

noncomputable def f77_l2 (_rec : Rec) (_k : Nat) (ws0 : List Value) (v2 : Value) (n4 : Int) (ws1 : List Value) (h3 : H) : Option (Ex × List Value × H) :=
  asI .i64 (gv ws1 1) fun n5 =>
  ifB (lt n5 n4) (
    asK (gv ws1 1) fun n6 =>
    six v2 n6 1 fun b2 b3 =>
    ld Tryd.prog h3 3 b2 b3 fun v3 =>
    asI .i64 v3 fun n7 =>
    asI .i64 (gv ws0 1) fun n8 =>
    ifB (lt n8 n7) (
      bld Tryd.prog 32 [(0, gv ws0 1), (1, (.int .i64 n7))] fun v4 =>
      bls Tryd.prog h3 24 1 [(0, v4)] fun v5 h4 =>
      app Tryd.prog h4 24 24 (gv ws1 0) v5 fun v6 h5 =>
      asI .i64 (gv ws1 1) fun n9 =>
      out .normal [v6, (.int .i64 (add .i64 n9 1))] h5) (
      asI .i64 (gv ws1 1) fun n10 =>
      out .normal [gv ws1 0, (.int .i64 (add .i64 n10 1))] h3)) (
    out (.exit 2) [gv ws1 0, gv ws1 1] h3)

noncomputable def f77_l1 (rec : Rec) (k : Nat) (v0 : Value) (n0 : Int) (ws0 : List Value) (h1 : H) : Option (Ex × List Value × H) :=
  asI .i64 (gv ws0 1) fun n1 =>
  ifB (lt n1 n0) (
    asK (gv ws0 1) fun n2 =>
    six v0 n2 1 fun b0 b1 =>
    ld Tryd.prog h1 3 b0 b1 fun v1 =>
    asI .i64 v1 fun n3 =>
    calls rec h1 76 [(.int .i64 n3)] fun v2 h2 =>
    len v2 fun n4 =>
    lp k (f77_l2 rec k ws0 v2 n4) [gv ws0 0, (.int .i64 0)] h2 fun e0 ws2 h6 =>
    onE e0 2 (
      asI .i64 (gv ws0 1) fun n11 =>
      out .normal [gv ws2 0, (.int .i64 (add .i64 n11 1))] h6) (
      none)) (
    out (.exit 0) [gv ws0 0, gv ws0 1] h1)

noncomputable def f77 (rec : Rec) (k : Nat) (v0 : Value) (h0 : H) : Option (Value × H) :=
  len v0 fun n0 =>
  lp k (f77_l1 rec k v0 n0) [(.slice none 0 0), (.int .i64 0)] h0 fun e1 ws3 h7 =>
  onE e1 0 (
    some (gv ws3 0, h7)) (
    none)

theorem e77 (rec : Rec) (k : Nat) (v0 : Value) (h : H) : bodyT Tryd.prog E0 SC (XC Tryd.prog rec k) 77 (Value × H) [.opq v0] h (fun v h => some (v, h)) = f77 rec k v0 h := by kernel_rfl

theorem t77 {k : Nat} {v0 : Value} {h h1 : H} {v : Value} (hh : f77 rn k v0 h = some (v, h1)) : rn 77 #[v0] h = some (v, trunc Tryd.prog h h1 v) :=
  run_of_bodyT (args := [.opq v0]) rfl ((e77 _ _ _ _).trans hh)

theorem x77 {k : Nat} {v0 : Value} {h h1 : H} {v : Value} (hh : f77 rn k v0 h = some (v, h1)) (hp : plainO v = false) : ∃ h2, rn 77 #[v0] h = some (v, h2) ∧ Sm h1 h2 ∧ (Ext h h1 → Exw h h2) := trunc_cell hp (t77 hh)

noncomputable def f87 (rec : Rec) (_k : Nat) (v0 : Value) (v1 : Value) (h0 : H) : Option (Value × H) :=
  bx h0 32 v1 fun h1 =>
  calls rec h1 85 [v0] fun v2 h2 =>
  aix 2 0 (
    ld Tryd.prog h2 3 (nx h0) (at_ 0 0 1) fun v3 =>
    asI .i64 v3 fun n0 =>
    six v2 n0 1 fun b0 b1 =>
    ld Tryd.prog h2 3 b0 b1 fun v4 =>
    asI .i64 v4 fun n1 =>
    aix 2 1 (
      ld Tryd.prog h2 3 (nx h0) (at_ 0 1 1) fun v5 =>
      asI .i64 v5 fun n2 =>
      nn n2 (
        six v2 n0 1 fun b2 b3 =>
        st Tryd.prog h2 3 b2 b3 (.int .i64 (andNot .i64 n1 (shl .i64 1 n2))) fun h3 =>
        aix 2 1 (
          ld Tryd.prog h3 3 (nx h0) (at_ 0 1 1) fun v6 =>
          asI .i64 v6 fun n3 =>
          six v2 n3 1 fun b4 b5 =>
          ld Tryd.prog h3 3 b4 b5 fun v7 =>
          asI .i64 v7 fun n4 =>
          aix 2 0 (
            ld Tryd.prog h3 3 (nx h0) (at_ 0 0 1) fun v8 =>
            asI .i64 v8 fun n5 =>
            nn n5 (
              six v2 n3 1 fun b6 b7 =>
              st Tryd.prog h3 3 b6 b7 (.int .i64 (andNot .i64 n4 (shl .i64 1 n5))) fun h4 =>
              some (v2, h4)))))))

theorem e87 (rec : Rec) (k : Nat) (v0 : Value) (v1 : Value) (h : H) : bodyT Tryd.prog E0 SC (XC Tryd.prog rec k) 87 (Value × H) [.opq v0, .opq v1] h (fun v h => some (v, h)) = f87 rec k v0 v1 h := by kernel_rfl

theorem t87 {k : Nat} {v0 : Value} {v1 : Value} {h h1 : H} {v : Value} (hh : f87 rn k v0 v1 h = some (v, h1)) : rn 87 #[v0, v1] h = some (v, trunc Tryd.prog h h1 v) :=
  run_of_bodyT (args := [.opq v0, .opq v1]) rfl ((e87 _ _ _ _ _).trans hh)

theorem x87 {k : Nat} {v0 : Value} {v1 : Value} {h h1 : H} {v : Value} (hh : f87 rn k v0 v1 h = some (v, h1)) (hp : plainO v = false) : ∃ h2, rn 87 #[v0, v1] h = some (v, h2) ∧ Sm h1 h2 ∧ (Ext h h1 → Exw h h2) := trunc_cell hp (t87 hh)

end Go.AM

end

section

/- The staged forms of functions 3, 17, 21, 22, and what calls of these answer. -/
namespace Go.AM
open Go.Proofs
noncomputable def f3 (rec : Rec) (_k : Nat) (v0 : Value) (h0 : H) : Option (Value × H) :=
  calls rec h0 18 [v0] fun v1 h1 =>
  calls rec h1 17 [v1] fun v2 h2 =>
  ext v2 0 fun v3 =>
  ext v2 1 fun v4 =>
  asI .i64 v4 fun n0 =>
  calls rec h2 19 [v0] fun v5 h3 =>
  asB v5 fun q0 =>
  ifB (not q0) (
    len v3 fun n1 =>
    ifB (eq n1 0) (
      ifB (eq n0 2) (
        calls rec h3 20 [] fun v6 h4 =>
        asB v6 fun q1 =>
        some ((.bool q1), h4)) (
        some ((.bool false), h3))) (
      some ((.bool false), h3))) (
    calls rec h3 22 [v0] fun v7 h5 =>
    calls rec h5 21 [v3, v7] fun v8 h6 =>
    asB v8 fun q2 =>
    ifB q2 (
      ifB (eq n0 0) (
        calls rec h6 20 [] fun v9 h7 =>
        asB v9 fun q3 =>
        some ((.bool q3), h7)) (
        some ((.bool false), h6))) (
      some ((.bool false), h6)))

theorem e3 (rec : Rec) (k : Nat) (v0 : Value) (h : H) : bodyT Tryd.prog E0 SC (XC Tryd.prog rec k) 3 (Value × H) [.opq v0] h (fun v h => some (v, h)) = f3 rec k v0 h := by kernel_rfl

theorem t3 {k : Nat} {v0 : Value} {h h1 : H} {v : Value} (hh : f3 rn k v0 h = some (v, h1)) : rn 3 #[v0] h = some (v, trunc Tryd.prog h h1 v) :=
  run_of_bodyT (args := [.opq v0]) rfl ((e3 _ _ _ _).trans hh)

theorem p3 {k : Nat} {v0 : Value} {h h1 : H} {v : Value} (hh : f3 rn k v0 h = some (v, h1)) (hp : plainO v = true) (x : Ext h h1) : rn 3 #[v0] h = some (v, h) := by rw [t3 hh, trunc_pure hp x]

theorem x3 {k : Nat} {v0 : Value} {h h1 : H} {v : Value} (hh : f3 rn k v0 h = some (v, h1)) (hp : plainO v = false) : ∃ h2, rn 3 #[v0] h = some (v, h2) ∧ Sm h1 h2 ∧ (Ext h h1 → Exw h h2) := trunc_cell hp (t3 hh)

end Go.AM

end

section

/- The staged forms of functions 18, 19, 52, 63, 66, 65, 68, 76, 78, 64, 33, 67, 83, 85, 79, 80, and what calls of these answer. -/
namespace Go.AM
open Go.Proofs
noncomputable def f18 (rec : Rec) (_k : Nat) (v0 : Value) (h0 : H) : Option (Value × H) :=
  len v0 fun n0 =>
  sli Tryd.prog h0 23 v0 none (some (.int .i64 (imin n0 14))) none fun v1 =>
  calls rec h0 52 [v1] fun v2 h1 =>
  some (v2, h1)

theorem e18 (rec : Rec) (k : Nat) (v0 : Value) (h : H) : bodyT Tryd.prog E0 SC (XC Tryd.prog rec k) 18 (Value × H) [.opq v0] h (fun v h => some (v, h)) = f18 rec k v0 h := by kernel_rfl

theorem t18 {k : Nat} {v0 : Value} {h h1 : H} {v : Value} (hh : f18 rn k v0 h = some (v, h1)) : rn 18 #[v0] h = some (v, trunc Tryd.prog h h1 v) :=
  run_of_bodyT (args := [.opq v0]) rfl ((e18 _ _ _ _).trans hh)

theorem x18 {k : Nat} {v0 : Value} {h h1 : H} {v : Value} (hh : f18 rn k v0 h = some (v, h1)) (hp : plainO v = false) : ∃ h2, rn 18 #[v0] h = some (v, h2) ∧ Sm h1 h2 ∧ (Ext h h1 → Exw h h2) := trunc_cell hp (t18 hh)

noncomputable def f19 (rec : Rec) (_k : Nat) (v0 : Value) (h0 : H) : Option (Value × H) :=
  calls rec h0 66 [v0, (.int .i64 10)] fun v1 h1 =>
  asB v1 fun q0 =>
  some ((.bool q0), h1)

theorem e19 (rec : Rec) (k : Nat) (v0 : Value) (h : H) : bodyT Tryd.prog E0 SC (XC Tryd.prog rec k) 19 (Value × H) [.opq v0] h (fun v h => some (v, h)) = f19 rec k v0 h := by kernel_rfl

theorem t19 {k : Nat} {v0 : Value} {h h1 : H} {v : Value} (hh : f19 rn k v0 h = some (v, h1)) : rn 19 #[v0] h = some (v, trunc Tryd.prog h h1 v) :=
  run_of_bodyT (args := [.opq v0]) rfl ((e19 _ _ _ _).trans hh)

theorem p19 {k : Nat} {v0 : Value} {h h1 : H} {v : Value} (hh : f19 rn k v0 h = some (v, h1)) (hp : plainO v = true) (x : Ext h h1) : rn 19 #[v0] h = some (v, h) := by rw [t19 hh, trunc_pure hp x]

noncomputable def f52 (_rec : Rec) (_k : Nat) (v0 : Value) (h0 : H) : Option (Value × H) :=
  eqv Tryd.prog 23 v0 (.slice none 0 0) fun q0 =>
  ifB q0 (
    some ((.slice none 0 0), h0)) (
    bls Tryd.prog h0 23 0 [] fun v1 h1 =>
    app Tryd.prog h1 23 23 v1 v0 fun v2 h2 =>
    some (v2, h2))

theorem e52 (rec : Rec) (k : Nat) (v0 : Value) (h : H) : bodyT Tryd.prog E0 SC (XC Tryd.prog rec k) 52 (Value × H) [.opq v0] h (fun v h => some (v, h)) = f52 rec k v0 h := by kernel_rfl

theorem t52 {k : Nat} {v0 : Value} {h h1 : H} {v : Value} (hh : f52 rn k v0 h = some (v, h1)) : rn 52 #[v0] h = some (v, trunc Tryd.prog h h1 v) :=
  run_of_bodyT (args := [.opq v0]) rfl ((e52 _ _ _ _).trans hh)

theorem x52 {k : Nat} {v0 : Value} {h h1 : H} {v : Value} (hh : f52 rn k v0 h = some (v, h1)) (hp : plainO v = false) : ∃ h2, rn 52 #[v0] h = some (v, h2) ∧ Sm h1 h2 ∧ (Ext h h1 → Exw h h2) := trunc_cell hp (t52 hh)

noncomputable def f63_l2 (_rec : Rec) (_k : Nat) (v0 : Value) (n0 : Int) (ws0 : List Value) (n4 : Int) (ws1 : List Value) (h2 : H) : Option (Ex × List Value × H) :=
  asI .i64 (gv ws1 2) fun n6 =>
  ifB (lt n6 n0) (
    asK (gv ws1 2) fun n7 =>
    nn n7 (
      asK (gv ws1 2) fun n8 =>
      six v0 n8 1 fun b2 b3 =>
      ld Tryd.prog h2 3 b2 b3 fun v2 =>
      asI .i64 v2 fun n9 =>
      asK (gv ws0 2) fun n10 =>
      nn n10 (
        ifB (not (eq (and .i64 (shr .i64 n4 n7) 1) (and .i64 (shr .i64 n9 n10) 1))) (
          out .ret [(.slice none 0 0), (.bool false), gv ws1 2] h2) (
          asI .i64 (gv ws1 2) fun n11 =>
          out .normal [gv ws1 0, gv ws1 1, (.int .i64 (add .i64 n11 1))] h2)))) (
    out (.exit 2) [gv ws1 0, gv ws1 1, gv ws1 2] h2)

noncomputable def f63_l1 (rec : Rec) (k : Nat) (v0 : Value) (n0 : Int) (n1 : Int) (ws0 : List Value) (h1 : H) : Option (Ex × List Value × H) :=
  asI .i64 (gv ws0 2) fun n2 =>
  ifB (lt n2 n1) (
    asK (gv ws0 2) fun n3 =>
    six v0 n3 1 fun b0 b1 =>
    ld Tryd.prog h1 3 b0 b1 fun v1 =>
    asI .i64 v1 fun n4 =>
    ifB (lt n4 0) (
      out .ret [(.slice none 0 0), (.bool false), gv ws0 2] h1) (
      nn n0 (
        ifB (le (shl .i64 1 n0) n4) (
          out .ret [(.slice none 0 0), (.bool false), gv ws0 2] h1) (
          asK (gv ws0 2) fun n5 =>
          nn n5 (
            ifB (eq (and .i64 (shr .i64 n4 n5) 1) 1) (
              out .ret [(.slice none 0 0), (.bool false), gv ws0 2] h1) (
              lp k (f63_l2 rec k v0 n0 ws0 n4) [gv ws0 0, gv ws0 1, (.int .i64 0)] h1 fun e0 ws2 h3 =>
              onE e0 2 (
                asI .i64 (gv ws0 2) fun n12 =>
                out .normal [gv ws2 0, gv ws2 1, (.int .i64 (add .i64 n12 1))] h3) (
                onR e0 (
                  out .ret [gv ws2 0, gv ws2 1, gv ws0 2] h3)))))))) (
    out (.exit 0) [gv ws0 0, gv ws0 1, gv ws0 2] h1)

noncomputable def f63 (rec : Rec) (k : Nat) (v0 : Value) (h0 : H) : Option (Value × H) :=
  len v0 fun n0 =>
  ifB (lt n0 1) (
    some ((.tuple #[(.slice none 0 0), (.bool false)]), h0)) (
    ifB (lt 10 n0) (
      some ((.tuple #[(.slice none 0 0), (.bool false)]), h0)) (
      len v0 fun n1 =>
      lp k (f63_l1 rec k v0 n0 n1) [(.slice none 0 0), (.bool false), (.int .i64 0)] h0 fun e1 ws3 h4 =>
      onE e1 0 (
        some ((.tuple #[v0, (.bool true)]), h4)) (
        onR e1 (
          some ((.tuple #[gv ws3 0, gv ws3 1]), h4)))))

theorem e63 (rec : Rec) (k : Nat) (v0 : Value) (h : H) : bodyT Tryd.prog E0 SC (XC Tryd.prog rec k) 63 (Value × H) [.opq v0] h (fun v h => some (v, h)) = f63 rec k v0 h := by kernel_rfl

theorem t63 {k : Nat} {v0 : Value} {h h1 : H} {v : Value} (hh : f63 rn k v0 h = some (v, h1)) : rn 63 #[v0] h = some (v, trunc Tryd.prog h h1 v) :=
  run_of_bodyT (args := [.opq v0]) rfl ((e63 _ _ _ _).trans hh)

theorem y63 {k : Nat} {v0 : Value} {h : H} {v : Value} (hh : f63 rn k v0 h = some (v, h)) : rn 63 #[v0] h = some (v, h) := by rw [t63 hh, trunc_self]

noncomputable def f66_l2 (_rec : Rec) (_k : Nat) (v0 : Value) (ws0 : List Value) (n4 : Int) (n8 : Int) (ws1 : List Value) (h2 : H) : Option (Ex × List Value × H) :=
  asI .i64 (gv ws1 1) fun n9 =>
  ifB (lt n9 n8) (
    asK (gv ws1 1) fun n10 =>
    nn n10 (
      asK (gv ws1 1) fun n11 =>
      six v0 n11 1 fun b2 b3 =>
      ld Tryd.prog h2 3 b2 b3 fun v2 =>
      asI .i64 v2 fun n12 =>
      asK (gv ws0 1) fun n13 =>
      nn n13 (
        ifB (not (eq (and .i64 (shr .i64 n4 n10) 1) (and .i64 (shr .i64 n12 n13) 1))) (
          out .ret [(.bool false), gv ws1 1] h2) (
          asI .i64 (gv ws1 1) fun n14 =>
          out .normal [gv ws1 0, (.int .i64 (add .i64 n14 1))] h2)))) (
    out (.exit 2) [gv ws1 0, gv ws1 1] h2)

noncomputable def f66_l1 (rec : Rec) (k : Nat) (v0 : Value) (n0 : Int) (n1 : Int) (ws0 : List Value) (h1 : H) : Option (Ex × List Value × H) :=
  asI .i64 (gv ws0 1) fun n2 =>
  ifB (lt n2 n1) (
    asK (gv ws0 1) fun n3 =>
    six v0 n3 1 fun b0 b1 =>
    ld Tryd.prog h1 3 b0 b1 fun v1 =>
    asI .i64 v1 fun n4 =>
    len v0 fun n5 =>
    ifB (lt n0 n5) (
      out .ret [(.bool false), gv ws0 1] h1) (
      ifB (lt n4 0) (
        out .ret [(.bool false), gv ws0 1] h1) (
        len v0 fun n6 =>
        nn n6 (
          ifB (le (shl .i64 1 n6) n4) (
            out .ret [(.bool false), gv ws0 1] h1) (
            asK (gv ws0 1) fun n7 =>
            nn n7 (
              ifB (eq (and .i64 (shr .i64 n4 n7) 1) 1) (
                out .ret [(.bool false), gv ws0 1] h1) (
                len v0 fun n8 =>
                lp k (f66_l2 rec k v0 ws0 n4 n8) [gv ws0 0, (.int .i64 0)] h1 fun e0 ws2 h3 =>
                onE e0 2 (
                  asI .i64 (gv ws0 1) fun n15 =>
                  out .normal [gv ws2 0, (.int .i64 (add .i64 n15 1))] h3) (
                  onR e0 (
                    out .ret [gv ws2 0, gv ws0 1] h3))))))))) (
    out (.exit 0) [gv ws0 0, gv ws0 1] h1)

noncomputable def f66 (rec : Rec) (k : Nat) (v0 : Value) (n0 : Int) (h0 : H) : Option (Value × H) :=
  len v0 fun n1 =>
  lp k (f66_l1 rec k v0 n0 n1) [(.bool false), (.int .i64 0)] h0 fun e1 ws3 h4 =>
  onE e1 0 (
    len v0 fun n16 =>
    ifB (le 1 n16) (
      len v0 fun n17 =>
      some ((.bool (le n17 n0)), h4)) (
      some ((.bool false), h4))) (
    onR e1 (
      some (gv ws3 0, h4)))

theorem e66 (rec : Rec) (k : Nat) (v0 : Value) (n0 : Int) (h : H) : bodyT Tryd.prog E0 SC (XC Tryd.prog rec k) 66 (Value × H) [.opq v0, .int .i64 n0] h (fun v h => some (v, h)) = f66 rec k v0 n0 h := by kernel_rfl

theorem t66 {k : Nat} {v0 : Value} {n0 : Int} {h h1 : H} {v : Value} (hh : f66 rn k v0 n0 h = some (v, h1)) : rn 66 #[v0, .int .i64 n0] h = some (v, trunc Tryd.prog h h1 v) :=
  run_of_bodyT (args := [.opq v0, .int .i64 n0]) rfl ((e66 _ _ _ _ _).trans hh)

theorem p66 {k : Nat} {v0 : Value} {n0 : Int} {h h1 : H} {v : Value} (hh : f66 rn k v0 n0 h = some (v, h1)) (hp : plainO v = true) (x : Ext h h1) : rn 66 #[v0, .int .i64 n0] h = some (v, h) := by rw [t66 hh, trunc_pure hp x]

noncomputable def f65 (_rec : Rec) (_k : Nat) (v0 : Value) (h0 : H) : Option (Value × H) :=
  len v0 fun n0 =>
  nn n0 (
    some ((.int .i64 (sub .i64 (shl .i64 1 n0) 1)), h0))

theorem e65 (rec : Rec) (k : Nat) (v0 : Value) (h : H) : bodyT Tryd.prog E0 SC (XC Tryd.prog rec k) 65 (Value × H) [.opq v0] h (fun v h => some (v, h)) = f65 rec k v0 h := by kernel_rfl

theorem t65 {k : Nat} {v0 : Value} {h h1 : H} {v : Value} (hh : f65 rn k v0 h = some (v, h1)) : rn 65 #[v0] h = some (v, trunc Tryd.prog h h1 v) :=
  run_of_bodyT (args := [.opq v0]) rfl ((e65 _ _ _ _).trans hh)

theorem p65 {k : Nat} {v0 : Value} {h h1 : H} {v : Value} (hh : f65 rn k v0 h = some (v, h1)) (hp : plainO v = true) (x : Ext h h1) : rn 65 #[v0] h = some (v, h) := by rw [t65 hh, trunc_pure hp x]

noncomputable def f68 (_rec : Rec) (_k : Nat) (v0 : Value) (h0 : H) : Option (Value × H) :=
  len v0 fun n0 =>
  nn n0 (
    some ((.int .i64 (sub .i64 (shl .i64 1 n0) 1)), h0))

theorem e68 (rec : Rec) (k : Nat) (v0 : Value) (h : H) : bodyT Tryd.prog E0 SC (XC Tryd.prog rec k) 68 (Value × H) [.opq v0] h (fun v h => some (v, h)) = f68 rec k v0 h := by kernel_rfl

theorem t68 {k : Nat} {v0 : Value} {h h1 : H} {v : Value} (hh : f68 rn k v0 h = some (v, h1)) : rn 68 #[v0] h = some (v, trunc Tryd.prog h h1 v) :=
  run_of_bodyT (args := [.opq v0]) rfl ((e68 _ _ _ _).trans hh)

theorem p68 {k : Nat} {v0 : Value} {h h1 : H} {v : Value} (hh : f68 rn k v0 h = some (v, h1)) (hp : plainO v = true) (x : Ext h h1) : rn 68 #[v0] h = some (v, h) := by rw [t68 hh, trunc_pure hp x]

noncomputable def f76_l1 (rec : Rec) (_k : Nat)  (ws0 : List Value) (h1 : H) : Option (Ex × List Value × H) :=
  asI .i64 (gv ws0 1) fun n1 =>
  ifB (not (eq n1 0)) (
    asI .i64 (gv ws0 1) fun n2 =>
    calls rec h1 89 [(.int .u64 (wr .u64 n2))] fun v0 h2 =>
    asI .i64 v0 fun n3 =>
    bls Tryd.prog h2 22 1 [(0, (.int .i64 n3))] fun v1 h3 =>
    app Tryd.prog h3 22 22 (gv ws0 0) v1 fun v2 h4 =>
    asI .i64 (gv ws0 1) fun n4 =>
    asI .i64 (gv ws0 1) fun n5 =>
    out .normal [v2, (.int .i64 (and .i64 n5 (sub .i64 n4 1)))] h4) (
    out (.exit 0) [gv ws0 0, gv ws0 1] h1)

noncomputable def f76 (rec : Rec) (k : Nat) (n0 : Int) (h0 : H) : Option (Value × H) :=
  lp k (f76_l1 rec k) [(.slice none 0 0), (.int .i64 n0)] h0 fun e0 ws1 h5 =>
  onE e0 0 (
    some (gv ws1 0, h5)) (
    none)

theorem e76 (rec : Rec) (k : Nat) (n0 : Int) (h : H) : bodyT Tryd.prog E0 SC (XC Tryd.prog rec k) 76 (Value × H) [.int .i64 n0] h (fun v h => some (v, h)) = f76 rec k n0 h := by kernel_rfl

theorem t76 {k : Nat} {n0 : Int} {h h1 : H} {v : Value} (hh : f76 rn k n0 h = some (v, h1)) : rn 76 #[.int .i64 n0] h = some (v, trunc Tryd.prog h h1 v) :=
  run_of_bodyT (args := [.int .i64 n0]) rfl ((e76 _ _ _ _).trans hh)

theorem x76 {k : Nat} {n0 : Int} {h h1 : H} {v : Value} (hh : f76 rn k n0 h = some (v, h1)) (hp : plainO v = false) : ∃ h2, rn 76 #[.int .i64 n0] h = some (v, h2) ∧ Sm h1 h2 ∧ (Ext h h1 → Exw h h2) := trunc_cell hp (t76 hh)

noncomputable def f78_l2 (_rec : Rec) (_k : Nat) (v0 : Value) (n1 : Int) (v1 : Value) (n2 : Int) (ws1 : List Value) (h3 : H) : Option (Ex × List Value × H) :=
  asI .i64 (gv ws1 1) fun n3 =>
  ifB (lt n3 n2) (
    asK (gv ws1 1) fun n4 =>
    six v1 n4 1 fun b0 b1 =>
    ld Tryd.prog h3 3 b0 b1 fun v2 =>
    asI .i64 v2 fun n5 =>
    six v0 n5 1 fun b2 b3 =>
    ld Tryd.prog h3 3 b2 b3 fun v3 =>
    asI .i64 v3 fun n6 =>
    asI .i64 (gv ws1 0) fun n7 =>
    asI .i64 (gv ws1 1) fun n8 =>
    out .normal [(.int .i64 (or .i64 n7 (and .i64 n6 n1))), (.int .i64 (add .i64 n8 1))] h3) (
    out (.exit 2) [gv ws1 0, gv ws1 1] h3)

noncomputable def f78_l1 (rec : Rec) (k : Nat) (v0 : Value) (n1 : Int) (ws0 : List Value) (h1 : H) : Option (Ex × List Value × H) :=
  calls rec h1 76 [gv ws0 1] fun v1 h2 =>
  len v1 fun n2 =>
  lp k (f78_l2 rec k v0 n1 v1 n2) [gv ws0 1, (.int .i64 0)] h2 fun e0 ws2 h4 =>
  onE e0 2 (
    asI .i64 (gv ws2 0) fun n9 =>
    asI .i64 (gv ws0 1) fun n10 =>
    ifB (eq n9 n10) (
      out .ret [gv ws0 1, gv ws0 1] h4) (
      out .normal [gv ws0 0, gv ws2 0] h4)) (
    none)

noncomputable def f78 (rec : Rec) (k : Nat) (v0 : Value) (n0 : Int) (n1 : Int) (h0 : H) : Option (Value × H) :=
  nn n0 (
    lp k (f78_l1 rec k v0 n1) [(.int .i64 0), (.int .i64 (shl .i64 1 n0))] h0 fun e1 ws3 h5 =>
    onR e1 (
      some (gv ws3 0, h5)))

theorem e78 (rec : Rec) (k : Nat) (v0 : Value) (n0 : Int) (n1 : Int) (h : H) : bodyT Tryd.prog E0 SC (XC Tryd.prog rec k) 78 (Value × H) [.opq v0, .int .i64 n0, .int .i64 n1] h (fun v h => some (v, h)) = f78 rec k v0 n0 n1 h := by kernel_rfl

theorem t78 {k : Nat} {v0 : Value} {n0 : Int} {n1 : Int} {h h1 : H} {v : Value} (hh : f78 rn k v0 n0 n1 h = some (v, h1)) : rn 78 #[v0, .int .i64 n0, .int .i64 n1] h = some (v, trunc Tryd.prog h h1 v) :=
  run_of_bodyT (args := [.opq v0, .int .i64 n0, .int .i64 n1]) rfl ((e78 _ _ _ _ _ _).trans hh)

theorem p78 {k : Nat} {v0 : Value} {n0 : Int} {n1 : Int} {h h1 : H} {v : Value} (hh : f78 rn k v0 n0 n1 h = some (v, h1)) (hp : plainO v = true) (x : Ext h h1) : rn 78 #[v0, .int .i64 n0, .int .i64 n1] h = some (v, h) := by rw [t78 hh, trunc_pure hp x]

noncomputable def f64 (rec : Rec) (_k : Nat) (v0 : Value) (n0 : Int) (h0 : H) : Option (Value × H) :=
  ifB (eq n0 0) (
    some ((.bool true), h0)) (
    calls rec h0 89 [(.int .u64 (wr .u64 n0))] fun v1 h1 =>
    asI .i64 v1 fun n1 =>
    calls rec h1 78 [v0, (.int .i64 n1), (.int .i64 n0)] fun v2 h2 =>
    asI .i64 v2 fun n2 =>
    some ((.bool (eq n2 n0)), h2))

theorem e64 (rec : Rec) (k : Nat) (v0 : Value) (n0 : Int) (h : H) : bodyT Tryd.prog E0 SC (XC Tryd.prog rec k) 64 (Value × H) [.opq v0, .int .i64 n0] h (fun v h => some (v, h)) = f64 rec k v0 n0 h := by kernel_rfl

theorem t64 {k : Nat} {v0 : Value} {n0 : Int} {h h1 : H} {v : Value} (hh : f64 rn k v0 n0 h = some (v, h1)) : rn 64 #[v0, .int .i64 n0] h = some (v, trunc Tryd.prog h h1 v) :=
  run_of_bodyT (args := [.opq v0, .int .i64 n0]) rfl ((e64 _ _ _ _ _).trans hh)

theorem p64 {k : Nat} {v0 : Value} {n0 : Int} {h h1 : H} {v : Value} (hh : f64 rn k v0 n0 h = some (v, h1)) (hp : plainO v = true) (x : Ext h h1) : rn 64 #[v0, .int .i64 n0] h = some (v, h) := by rw [t64 hh, trunc_pure hp x]

noncomputable def f33_l2 (_rec : Rec) (_k : Nat) (v0 : Value) (n0 : Int) (n4 : Int) (ws1 : List Value) (h2 : H) : Option (Ex × List Value × H) :=
  asI .i64 (gv ws1 1) fun n5 =>
  ifB (lt n5 n4) (
    asI .i64 (gv ws1 0) fun n6 =>
    asK (gv ws1 1) fun n7 =>
    nn n7 (
      ifB (eq (and .i64 (shr .i64 n6 n7) 1) 1) (
        asK (gv ws1 1) fun n8 =>
        six v0 n8 1 fun b0 b1 =>
        ld Tryd.prog h2 3 b0 b1 fun v1 =>
        asI .i64 v1 fun n9 =>
        asI .i64 (gv ws1 0) fun n10 =>
        asI .i64 (gv ws1 1) fun n11 =>
        out .normal [(.int .i64 (or .i64 n10 (and .i64 n9 n0))), (.int .i64 (add .i64 n11 1))] h2) (
        asI .i64 (gv ws1 1) fun n12 =>
        out .normal [gv ws1 0, (.int .i64 (add .i64 n12 1))] h2))) (
    out (.exit 2) [gv ws1 0, gv ws1 1] h2)

noncomputable def f33_l1 (rec : Rec) (k : Nat) (v0 : Value) (n0 : Int) (n2 : Int) (ws0 : List Value) (h1 : H) : Option (Ex × List Value × H) :=
  asI .i64 (gv ws0 1) fun n3 =>
  ifB (lt n3 n2) (
    len v0 fun n4 =>
    lp k (f33_l2 rec k v0 n0 n4) [gv ws0 0, (.int .i64 0)] h1 fun e0 ws2 h3 =>
    onE e0 2 (
      asI .i64 (gv ws0 1) fun n13 =>
      out .normal [gv ws2 0, (.int .i64 (add .i64 n13 1))] h3) (
      none)) (
    out (.exit 0) [gv ws0 0, gv ws0 1] h1)

noncomputable def f33 (rec : Rec) (k : Nat) (v0 : Value) (n0 : Int) (n1 : Int) (h0 : H) : Option (Value × H) :=
  nn n1 (
    len v0 fun n2 =>
    lp k (f33_l1 rec k v0 n0 n2) [(.int .i64 (shl .i64 1 n1)), (.int .i64 0)] h0 fun e1 ws3 h4 =>
    onE e1 0 (
      some (gv ws3 0, h4)) (
      none))

theorem e33 (rec : Rec) (k : Nat) (v0 : Value) (n0 : Int) (n1 : Int) (h : H) : bodyT Tryd.prog E0 SC (XC Tryd.prog rec k) 33 (Value × H) [.opq v0, .int .i64 n0, .int .i64 n1] h (fun v h => some (v, h)) = f33 rec k v0 n0 n1 h := by kernel_rfl

theorem t33 {k : Nat} {v0 : Value} {n0 : Int} {n1 : Int} {h h1 : H} {v : Value} (hh : f33 rn k v0 n0 n1 h = some (v, h1)) : rn 33 #[v0, .int .i64 n0, .int .i64 n1] h = some (v, trunc Tryd.prog h h1 v) :=
  run_of_bodyT (args := [.opq v0, .int .i64 n0, .int .i64 n1]) rfl ((e33 _ _ _ _ _ _).trans hh)

theorem p33 {k : Nat} {v0 : Value} {n0 : Int} {n1 : Int} {h h1 : H} {v : Value} (hh : f33 rn k v0 n0 n1 h = some (v, h1)) (hp : plainO v = true) (x : Ext h h1) : rn 33 #[v0, .int .i64 n0, .int .i64 n1] h = some (v, h) := by rw [t33 hh, trunc_pure hp x]

noncomputable def f67_l1 (_rec : Rec) (_k : Nat) (n0 : Int) (ws0 : List Value) (h1 : H) : Option (Ex × List Value × H) :=
  asK (gv ws0 0) fun n2 =>
  nn n2 (
    ifB (eq (and .i64 (shr .i64 n0 n2) 1) 0) (
      asI .i64 (gv ws0 0) fun n3 =>
      out .normal [(.int .i64 (add .i64 n3 1))] h1) (
      out (.exit 0) [gv ws0 0] h1))

noncomputable def f67 (rec : Rec) (k : Nat) (v0 : Value) (n0 : Int) (h0 : H) : Option (Value × H) :=
  ifB (le n0 0) (
    some ((.bool false), h0)) (
    len v0 fun n1 =>
    nn n1 (
      ifB (le (shl .i64 1 n1) n0) (
        some ((.bool false), h0)) (
        lp k (f67_l1 rec k n0) [(.int .i64 0)] h0 fun e0 ws1 h2 =>
        onE e0 0 (
          calls rec h2 33 [v0, (.int .i64 n0), gv ws1 0] fun v1 h3 =>
          asI .i64 v1 fun n4 =>
          some ((.bool (eq n4 n0)), h3)) (
          none))))

theorem e67 (rec : Rec) (k : Nat) (v0 : Value) (n0 : Int) (h : H) : bodyT Tryd.prog E0 SC (XC Tryd.prog rec k) 67 (Value × H) [.opq v0, .int .i64 n0] h (fun v h => some (v, h)) = f67 rec k v0 n0 h := by kernel_rfl

theorem t67 {k : Nat} {v0 : Value} {n0 : Int} {h h1 : H} {v : Value} (hh : f67 rn k v0 n0 h = some (v, h1)) : rn 67 #[v0, .int .i64 n0] h = some (v, trunc Tryd.prog h h1 v) :=
  run_of_bodyT (args := [.opq v0, .int .i64 n0]) rfl ((e67 _ _ _ _ _).trans hh)

theorem p67 {k : Nat} {v0 : Value} {n0 : Int} {h h1 : H} {v : Value} (hh : f67 rn k v0 n0 h = some (v, h1)) (hp : plainO v = true) (x : Ext h h1) : rn 67 #[v0, .int .i64 n0] h = some (v, h) := by rw [t67 hh, trunc_pure hp x]

noncomputable def f83 (_rec : Rec) (_k : Nat) (v0 : Value) (h0 : H) : Option (Value × H) :=
  eqv Tryd.prog 22 v0 (.slice none 0 0) fun q0 =>
  ifB q0 (
    some ((.slice none 0 0), h0)) (
    bls Tryd.prog h0 22 0 [] fun v1 h1 =>
    app Tryd.prog h1 22 22 v1 v0 fun v2 h2 =>
    some (v2, h2))

theorem e83 (rec : Rec) (k : Nat) (v0 : Value) (h : H) : bodyT Tryd.prog E0 SC (XC Tryd.prog rec k) 83 (Value × H) [.opq v0] h (fun v h => some (v, h)) = f83 rec k v0 h := by kernel_rfl

theorem t83 {k : Nat} {v0 : Value} {h h1 : H} {v : Value} (hh : f83 rn k v0 h = some (v, h1)) : rn 83 #[v0] h = some (v, trunc Tryd.prog h h1 v) :=
  run_of_bodyT (args := [.opq v0]) rfl ((e83 _ _ _ _).trans hh)

theorem x83 {k : Nat} {v0 : Value} {h h1 : H} {v : Value} (hh : f83 rn k v0 h = some (v, h1)) (hp : plainO v = false) : ∃ h2, rn 83 #[v0] h = some (v, h2) ∧ Sm h1 h2 ∧ (Ext h h1 → Exw h h2) := trunc_cell hp (t83 hh)

noncomputable def f85 (_rec : Rec) (_k : Nat) (v0 : Value) (h0 : H) : Option (Value × H) :=
  eqv Tryd.prog 78 v0 (.slice none 0 0) fun q0 =>
  ifB q0 (
    some ((.slice none 0 0), h0)) (
    bls Tryd.prog h0 78 0 [] fun v1 h1 =>
    app Tryd.prog h1 78 78 v1 v0 fun v2 h2 =>
    some (v2, h2))

theorem e85 (rec : Rec) (k : Nat) (v0 : Value) (h : H) : bodyT Tryd.prog E0 SC (XC Tryd.prog rec k) 85 (Value × H) [.opq v0] h (fun v h => some (v, h)) = f85 rec k v0 h := by kernel_rfl

theorem t85 {k : Nat} {v0 : Value} {h h1 : H} {v : Value} (hh : f85 rn k v0 h = some (v, h1)) : rn 85 #[v0] h = some (v, trunc Tryd.prog h h1 v) :=
  run_of_bodyT (args := [.opq v0]) rfl ((e85 _ _ _ _).trans hh)

theorem x85 {k : Nat} {v0 : Value} {h h1 : H} {v : Value} (hh : f85 rn k v0 h = some (v, h1)) (hp : plainO v = false) : ∃ h2, rn 85 #[v0] h = some (v, h2) ∧ Sm h1 h2 ∧ (Ext h h1 → Exw h h2) := trunc_cell hp (t85 hh)

noncomputable def f79 (_rec : Rec) (_k : Nat) (v0 : Value) (n0 : Int) (h0 : H) : Option (Value × H) :=
  ifB (le 0 n0) (
    len v0 fun n1 =>
    some ((.bool (lt n0 n1)), h0)) (
    some ((.bool false), h0))

theorem e79 (rec : Rec) (k : Nat) (v0 : Value) (n0 : Int) (h : H) : bodyT Tryd.prog E0 SC (XC Tryd.prog rec k) 79 (Value × H) [.opq v0, .int .i64 n0] h (fun v h => some (v, h)) = f79 rec k v0 n0 h := by kernel_rfl

theorem t79 {k : Nat} {v0 : Value} {n0 : Int} {h h1 : H} {v : Value} (hh : f79 rn k v0 n0 h = some (v, h1)) : rn 79 #[v0, .int .i64 n0] h = some (v, trunc Tryd.prog h h1 v) :=
  run_of_bodyT (args := [.opq v0, .int .i64 n0]) rfl ((e79 _ _ _ _ _).trans hh)

theorem p79 {k : Nat} {v0 : Value} {n0 : Int} {h h1 : H} {v : Value} (hh : f79 rn k v0 n0 h = some (v, h1)) (hp : plainO v = true) (x : Ext h h1) : rn 79 #[v0, .int .i64 n0] h = some (v, h) := by rw [t79 hh, trunc_pure hp x]

noncomputable def f80 (_rec : Rec) (_k : Nat) (v0 : Value) (n0 : Int) (n1 : Int) (h0 : H) : Option (Value × H) :=
  six v0 n0 1 fun b0 b1 =>
  ld Tryd.prog h0 3 b0 b1 fun v1 =>
  asI .i64 v1 fun n2 =>
  nn n1 (
    some ((.bool (eq (and .i64 (shr .i64 n2 n1) 1) 1)), h0))

theorem e80 (rec : Rec) (k : Nat) (v0 : Value) (n0 : Int) (n1 : Int) (h : H) : bodyT Tryd.prog E0 SC (XC Tryd.prog rec k) 80 (Value × H) [.opq v0, .int .i64 n0, .int .i64 n1] h (fun v h => some (v, h)) = f80 rec k v0 n0 n1 h := by kernel_rfl

theorem t80 {k : Nat} {v0 : Value} {n0 : Int} {n1 : Int} {h h1 : H} {v : Value} (hh : f80 rn k v0 n0 n1 h = some (v, h1)) : rn 80 #[v0, .int .i64 n0, .int .i64 n1] h = some (v, trunc Tryd.prog h h1 v) :=
  run_of_bodyT (args := [.opq v0, .int .i64 n0, .int .i64 n1]) rfl ((e80 _ _ _ _ _ _).trans hh)

theorem p80 {k : Nat} {v0 : Value} {n0 : Int} {n1 : Int} {h h1 : H} {v : Value} (hh : f80 rn k v0 n0 n1 h = some (v, h1)) (hp : plainO v = true) (x : Ext h h1) : rn 80 #[v0, .int .i64 n0, .int .i64 n1] h = some (v, h) := by rw [t80 hh, trunc_pure hp x]

end Go.AM

end

section

/- The staged forms of functions 89, 93, 109, 117, and what calls of these answer. -/
namespace Go.AM
open Go.Proofs
noncomputable def f89 (rec : Rec) (_k : Nat) (v0 : Value) (h0 : H) : Option (Value × H) :=
  calls rec h0 106 [v0] fun v1 h1 =>
  asI .i64 v1 fun n0 =>
  some ((.int .i64 n0), h1)

theorem e89 (rec : Rec) (k : Nat) (v0 : Value) (h : H) : bodyT Tryd.prog E0 SC (XC Tryd.prog rec k) 89 (Value × H) [.opq v0] h (fun v h => some (v, h)) = f89 rec k v0 h := by kernel_rfl

theorem t89 {k : Nat} {v0 : Value} {h h1 : H} {v : Value} (hh : f89 rn k v0 h = some (v, h1)) : rn 89 #[v0] h = some (v, trunc Tryd.prog h h1 v) :=
  run_of_bodyT (args := [.opq v0]) rfl ((e89 _ _ _ _).trans hh)

theorem p89 {k : Nat} {v0 : Value} {h h1 : H} {v : Value} (hh : f89 rn k v0 h = some (v, h1)) (hp : plainO v = true) (x : Ext h h1) : rn 89 #[v0] h = some (v, h) := by rw [t89 hh, trunc_pure hp x]

end Go.AM

end

section

/- The lowest bit of a set; how many bits it has. -/
namespace Go.AM
open Go.Proofs
/-- The lowest number of a set below 1024. -/
def low (x : Nat) : Nat := ((List.range 10).find? fun i => x.testBit i).getD 0

/-- How many of the first ten numbers are in a set. -/
def pop (n : Nat) : Nat := (List.range 10).countP fun i => n.testBit i

theorem iso_any {P : Program} {E : Env} {n : Nat} {f : FuncId} {args : Array Value} {h h0 h1 : H} {v : Value} (hi : (E.iso f && args.toList.all plainV) = true) (hc : call P E (n + 1) f args h0 = some (v, h1)) : call P E (n + 1) f args h = some (v, h) := by
  unfold call at hc ⊢
  rw [if_pos hi] at hc ⊢
  cases hb : body P E (call P E n) (n + 1) f args (lone E) with
  | none => rw [hb] at hc; cases hc
  | some r =>
    obtain ⟨v', h'⟩ := r
    rw [hb] at hc
    simp only [Option.bind_some] at hc ⊢
    split at hc
    · rename_i hp
      rw [if_pos hp]
      cases hc
      rfl
    · cases hc

noncomputable def tzOk (x : Nat) : Bool := match call Tryd.prog E0 20 106 #[.int .u64 (x : Int)] ⟨fun _ => none, 0, 0⟩ with
  | some (.int .i64 z, _) => z == (low x : Int)
  | _ => false

theorem tz_all : ((List.range 1024).all fun x => decide (x = 0) || tzOk x) = true := by decide +kernel

theorem s106 {x : Nat} (h0 : 0 < x) (h1 : x < 1024) (h : H) : rn 106 #[.int .u64 x] h = some (iv (low x), h) := by
  have := List.all_eq_true.1 tz_all x (List.mem_range.2 h1)
  rw [Bool.or_eq_true, decide_eq_true_iff] at this
  have ht : tzOk x = true := by
    rcases this with h2 | h2
    · omega
    · exact h2
  unfold tzOk at ht
  split at ht
  · rename_i z h' hc
    have hz : z = (low x : Int) := by simpa using ht
    subst hz
    exact run_iso (n := 19) (by rfl) (iso_any (by rfl) hc)
  · cases ht

theorem s89 {x : Nat} (h0 : 0 < x) (h1 : x < 1024) (h : H) : rn 89 #[.int .u64 x] h = some (iv (low x), h) := by
  refine p89 (k := 0) ?_ rfl (.refl _)
  unfold f89
  rw [calls_eq (xs := [.int .u64 x]) (s106 h0 h1 h), asI_int]

end Go.AM

end

section

/- Graphs that are valid; copies of slices; it is awake. -/
namespace Go.AM
open Go.Proofs
variable {R : Type}
attribute [local simp] nx_eq nx_new nx_set blk_new blk_set asI_int asK_int asB_bool asP_ptr al_eq bx_eq len_slice onE_exit onE_ret onR_ret Value.cells d3 d22 d23 cell_new cell_set rd_new rd_set off eq lt le ifB gv out
abbrev cellsI (l : List Int) : List (List Value) := l.map fun z => [iv z]

theorem app22 : okApp Tryd.prog 22 3 1 = true := by kernel_rfl

theorem app23 : okApp Tryd.prog 23 3 1 = true := by kernel_rfl

theorem app78 : okApp Tryd.prog 78 3 1 = true := by kernel_rfl

theorem under22 : Tryd.prog.underlying 22 = some (.slice 3) := by kernel_rfl

theorem under23 : Tryd.prog.underlying 23 = some (.slice 3) := by kernel_rfl

theorem bls22e (h : H) : buildSlice Tryd.prog 22 0 [] h = some (.slice (some ⟨h.nx, 0, none⟩) 0 0, h.new (.row [] 3 true)) := by kernel_rfl

theorem bls23e (h : H) : buildSlice Tryd.prog 23 0 [] h = some (.slice (some ⟨h.nx, 0, none⟩) 0 0, h.new (.row [] 3 true)) := by kernel_rfl

theorem bls78e (h : H) : buildSlice Tryd.prog 78 0 [] h = some (.slice (some ⟨h.nx, 0, none⟩) 0 0, h.new (.row [] 3 true)) := by kernel_rfl

theorem bls22 (z : Int) (h : H) : buildSlice Tryd.prog 22 1 [(0, .int .i64 z)] h = some (.slice (some ⟨h.nx, 0, none⟩) 1 1, h.new (.row [iv z] 3 true)) := by kernel_rfl

theorem nil22 : binOp Tryd.prog .eql 22 (.slice none 0 0) (.slice none 0 0) = some (.bool true) := by kernel_rfl

theorem some22 (b o n c : Nat) : binOp Tryd.prog .eql 22 (.slice (some ⟨b, o, none⟩) n c) (.slice none 0 0) = some (.bool false) := by kernel_rfl

theorem nil23 : binOp Tryd.prog .eql 23 (.slice none 0 0) (.slice none 0 0) = some (.bool true) := by kernel_rfl

theorem some23 (b o n c : Nat) : binOp Tryd.prog .eql 23 (.slice (some ⟨b, o, none⟩) n c) (.slice none 0 0) = some (.bool false) := by kernel_rfl

theorem some78 (b o n c : Nat) : binOp Tryd.prog .eql 78 (.slice (some ⟨b, o, none⟩) n c) (.slice none 0 0) = some (.bool false) := by kernel_rfl

/-- A copy: of a graph, of a slice of numbers, of a town. -/
theorem s52 {v : Value} {l : List (List Value)} {h : H} (hs : SlR h 3 1 v l) (hm : l.length < 2 ^ 30) : ∃ v' h', rn 52 #[v] h = some (v', h') ∧ Exw h h' ∧ SlR h' 3 1 v' l ∧ ∃ a n c, v' = .slice a n c := by
  have hs0 := hs
  have key : ∃ v' h', f52 rn 0 v h = some (v', h') ∧ Ext h h' ∧ SlR h' 3 1 v' l := by
    cases hs with
    | nil =>
      refine ⟨.slice none 0 0, h, ?_, .refl _, .nil⟩
      unfold f52 eqv
      rw [nil23]
      rfl
    | @at_ b o c cs own l hb hr hk hc hl hx =>
      unfold f52 eqv
      rw [some23]
      simp only []
      rw [show ifB false = fun (x y : Option (Value × H)) => y from rfl]
      simp only []
      rw [bls_some (bls23e h)]
      have x1 := Ext.new h (.row [] 3 true)
      obtain ⟨v', h', e, x, s⟩ := app_all (b := h.nx) app23 app23 (Nat.lt_succ_self _) (blk_new_self _ _) (hs0.ext x1) hm
      exact ⟨v', h', e _, x1.trans x, s⟩
  obtain ⟨v', h', e, x, s⟩ := key
  have hv : ∃ a n c, v' = .slice a n c := by cases s <;> exact ⟨_, _, _, rfl⟩
  obtain ⟨a, n, c, rfl⟩ := hv
  obtain ⟨h2, e2, m2, w2⟩ := x52 e rfl
  exact ⟨_, h2, e2, w2 x, s.ext m2.ext, a, n, c, rfl⟩

theorem s83 {v : Value} {l : List (List Value)} {h : H} (hs : SlR h 3 1 v l) (hm : l.length < 2 ^ 30) : ∃ v' h', rn 83 #[v] h = some (v', h') ∧ Exw h h' ∧ SlR h' 3 1 v' l ∧ ∃ a n c, v' = .slice a n c := by
  have hs0 := hs
  have key : ∃ v' h', f83 rn 0 v h = some (v', h') ∧ Ext h h' ∧ SlR h' 3 1 v' l := by
    cases hs with
    | nil =>
      refine ⟨.slice none 0 0, h, ?_, .refl _, .nil⟩
      unfold f83 eqv
      rw [nil22]
      rfl
    | @at_ b o c cs own l hb hr hk hc hl hx =>
      unfold f83 eqv
      rw [some22]
      simp only []
      rw [show ifB false = fun (x y : Option (Value × H)) => y from rfl]
      simp only []
      rw [bls_some (bls22e h)]
      have x1 := Ext.new h (.row [] 3 true)
      obtain ⟨v', h', e, x, s⟩ := app_all (b := h.nx) app22 app22 (Nat.lt_succ_self _) (blk_new_self _ _) (hs0.ext x1) hm
      exact ⟨v', h', e _, x1.trans x, s⟩
  obtain ⟨v', h', e, x, s⟩ := key
  have hv : ∃ a n c, v' = .slice a n c := by cases s <;> exact ⟨_, _, _, rfl⟩
  obtain ⟨a, n, c, rfl⟩ := hv
  obtain ⟨h2, e2, m2, w2⟩ := x83 e rfl
  exact ⟨_, h2, e2, w2 x, s.ext m2.ext, a, n, c, rfl⟩

/-- The beginning of a graph. -/
theorem s18 {v : Value} {l : List Int} {h : H} (hs : SlR h 3 1 v (cellsI l)) : ∃ v' h', rn 18 #[v] h = some (v', h') ∧ Exw h h' ∧ SlR h' 3 1 v' (cellsI (l.take 14)) := by
  have e1 : imin ((cellsI l).length : Int) 14 = ((min l.length 14 : Nat) : Int) := by
    rw [List.length_map]
    unfold imin
    split <;> omega
  obtain ⟨v1, s1, e2⟩ := hs.take (i := ((min l.length 14 : Nat) : Int)) under23 sz3 (by omega) (by rw [List.length_map]; omega)
  have e3 : (cellsI l).take ((min l.length 14 : Nat) : Int).toNat = cellsI (l.take 14) := by
    rw [Int.toNat_natCast, ← List.map_take]
    congr 1
    rcases Nat.le_total l.length 14 with h1 | h1
    · rw [Nat.min_eq_left h1, List.take_of_length_le (Nat.le_refl _), List.take_of_length_le h1]
    · rw [Nat.min_eq_right h1]
  rw [e3] at s1
  obtain ⟨v', h', e4, x, s, a, n, c, rfl⟩ := s52 s1 (by rw [List.length_map, List.length_take]; omega)
  obtain ⟨h2, e5, m2, w2⟩ := x18 (k := 0) (h := h) (v0 := v) (h1 := h') (v := .slice a n c) (by
    unfold f18
    rw [hs.len, e1, e2, calls_eq e4]) rfl
  exact ⟨_, h2, e5, w2 x.toExt, s.ext m2.ext⟩

/-- Is a number in a set? -/
def bitI (x j : Int) : Int := AM.and .i64 (shr .i64 x j) 1

def rowOk (l : List Int) (i : Nat) (x : Int) : Bool :=
  !decide (x < 0) && !decide (AM.shl .i64 1 (l.length : Int) ≤ x) && !decide (bitI x i = 1) && (List.range l.length).all fun j => decide (bitI x j = bitI (l.getD j 0) i)

/-- Is a graph valid? -/
def validG (l : List Int) : Bool := decide (1 ≤ l.length) && decide (l.length ≤ 10) && (List.range l.length).all fun i => rowOk l i (l.getD i 0)

theorem validG_iff {l : List Int} (h : 1 ≤ l.length ∧ l.length ≤ 10) : validG l = true ↔ ∀ i x, l[i]? = some x → rowOk l i x = true := by
  unfold validG
  rw [decide_eq_true h.1, decide_eq_true h.2]
  simp only [Bool.true_and, List.all_eq_true, List.mem_range]
  constructor
  · intro hh i x hx
    have := hh i (List.getElem?_eq_some_iff.1 hx).1
    simpa [List.getD, hx] using this
  · intro hh i hi
    have := hh i _ (List.getElem?_eq_getElem hi)
    simpa [List.getD, List.getElem?_eq_getElem hi] using this

theorem getL {h : H} {v : Value} {l : List Int} (hs : SlR h 3 1 v (cellsI l)) {i : Nat} {x : Int} (hx : l[i]? = some x) (K : Value → Option R) : (six v (i : Int) 1 fun b o => (h.cell b o).bind K) = K (iv x) :=
  hs.c0 (by omega) (x := [iv x]) (by simp [hx]) rfl K

set_option maxHeartbeats 1000000 in
theorem s63 {v : Value} {l : List Int} {h : H} (hs : SlR h 3 1 v (cellsI l)) : rn 63 #[v] h = some (if validG l = true then .tuple #[v, .bool true] else .tuple #[.slice none 0 0, .bool false], h) := by
  have hn : ∀ {T : Type} (K : Int → Option T), len v K = K (l.length : Int) := fun K => by rw [hs.len]; simp
  by_cases hl : 1 ≤ l.length ∧ l.length ≤ 10
  · have hni : ∀ i : Nat, nn (i : Int) = fun (z : Option (Ex × List Value × H)) => z := fun i => by funext z; exact nn_ge (by omega) z
    have hb : ∀ a b : Int, AM.and .i64 (shr .i64 a b) 1 = bitI a b := fun _ _ => rfl
    have inner := fun (i : Nat) (x : Int) (_ : l[i]? = some x) => lp_all (F := f63_l2 rn 200010 v l.length [.slice none 0 0, .bool false, iv i] x) (k := 200010) (l := l) (h := h) (fun j => [.slice none 0 0, .bool false, iv j])
      (fun j y => decide (bitI x j = bitI y i)) (fun j => [.slice none 0 0, .bool false, iv j]) 2 [.slice none 0 0, .bool false, iv l.length] (ws := [.slice none 0 0, .bool false, iv 0]) rfl (by omega)
      (by simp [f63_l2])
      (by
        intro j y hy
        have hj := (List.getElem?_eq_some_iff.1 hy).1
        have hadd : add .i64 (j : Int) 1 = (j : Int) + 1 := add64 (by omega) (by omega)
        have e1 := fun (K : Value → Option (Ex × List Value × H)) => getL hs hy K
        by_cases hq : bitI x j = bitI y i
        · simp [f63_l2, hj, hni, e1, hb, hq, hadd]
        · simp [f63_l2, hj, hni, e1, hb, hq])
    have hlp := lp_all (F := f63_l1 rn 200010 v l.length l.length) (k := 200010) (l := l) (h := h) (fun i => [.slice none 0 0, .bool false, iv i])
      (fun i x => rowOk l i x) (fun i => [.slice none 0 0, .bool false, iv i]) 0 [.slice none 0 0, .bool false, iv l.length] (ws := [.slice none 0 0, .bool false, iv 0]) rfl (by omega)
      (by simp [f63_l1])
      (by
        intro i x hx
        have hi := (List.getElem?_eq_some_iff.1 hx).1
        have hadd : add .i64 (i : Int) 1 = (i : Int) + 1 := add64 (by omega) (by omega)
        have e1 := fun (K : Value → Option (Ex × List Value × H)) => getL hs hx K
        have hall : rowOk l i x = (!decide (x < 0) && !decide (AM.shl .i64 1 (l.length : Int) ≤ x) && !decide (bitI x i = 1) && (List.range l.length).all fun j => decide (bitI x j = bitI (l.getD j 0) i)) := rfl
        by_cases h1 : x < 0
        · have : rowOk l i x = false := by rw [hall, decide_eq_true h1]; rfl
          simp [f63_l1, hi, e1, h1, this]
        · by_cases h2 : AM.shl .i64 1 (l.length : Int) ≤ x
          · have : rowOk l i x = false := by rw [hall, decide_eq_true h2]; simp
            simp [f63_l1, hi, e1, h1, hni, h2, this]
          · by_cases h3 : bitI x i = 1
            · have : rowOk l i x = false := by rw [hall, decide_eq_true h3]; simp
              simp [f63_l1, hi, e1, h1, hni, h2, hb, h3, this]
            · rcases inner i x hx with ⟨j, y, hy, q2, _, q1⟩ | ⟨q2, q1⟩
              · have : rowOk l i x = false := by
                  have : ((List.range l.length).all fun j => decide (bitI x j = bitI (l.getD j 0) i)) = false := by
                    rw [List.all_eq_false]
                    refine ⟨j, List.mem_range.2 (List.getElem?_eq_some_iff.1 hy).1, ?_⟩
                    rw [show l.getD j 0 = y by simp [List.getD, hy], q2]; simp
                  rw [hall, this]; simp
                have hlq := fun (K : Ex → List Value → H → Option (Ex × List Value × H)) => lp_eq (K := K) q1
                simp [f63_l1, hi, e1, h1, hni, h2, hb, h3, this, hlq]
              · have : rowOk l i x = true := by
                  have : ((List.range l.length).all fun j => decide (bitI x j = bitI (l.getD j 0) i)) = true := by
                    rw [List.all_eq_true]
                    intro j hj
                    have hj := List.mem_range.1 hj
                    have := q2 j _ (List.getElem?_eq_getElem hj)
                    simpa [List.getD, List.getElem?_eq_getElem hj] using this
                  rw [hall, this, decide_eq_false h1, decide_eq_false h2, decide_eq_false h3]; rfl
                have hlq := fun (K : Ex → List Value → H → Option (Ex × List Value × H)) => lp_eq (K := K) q1
                simp [f63_l1, hi, e1, h1, hni, h2, hb, h3, this, hlq, hadd])
    have hle1 : ¬ (l.length : Int) < 1 := by omega
    have hle2 : ¬ (10 : Int) < (l.length : Int) := by omega
    rcases hlp with ⟨j, y, hy, q2, _, q1⟩ | ⟨q2, q1⟩
    · have hv : validG l = false := by
        rw [Bool.eq_false_iff]
        intro hc
        have := (validG_iff hl).1 hc j y hy
        rw [this] at q2
        cases q2
      rw [hv]
      exact y63 (k := 200010) (by simp [f63, hn, hle1, hle2, lp_eq q1])
    · have hv : validG l = true := (validG_iff hl).2 q2
      rw [hv, if_pos rfl]
      exact y63 (k := 200010) (by simp [f63, hn, hle1, hle2, lp_eq q1])
  · have hv : validG l = false := by
      unfold validG
      rw [Bool.eq_false_iff]
      intro hc
      simp only [Bool.and_eq_true, decide_eq_true_iff] at hc
      exact hl hc.1
    rw [hv]
    refine y63 (k := 0) ?_
    simp [f63, hn]
    omega

set_option maxHeartbeats 1000000 in
/-- The document's test. -/
theorem s66 {v : Value} {l : List Int} {h : H} (hs : SlR h 3 1 v (cellsI l)) : rn 66 #[v, iv 10] h = some (.bool (validG l), h) := by
  have hlen := hs.lt62
  rw [List.length_map] at hlen
  have hn : ∀ {T : Type} (K : Int → Option T), len v K = K (l.length : Int) := fun K => by rw [hs.len]; simp
  by_cases hl : 1 ≤ l.length ∧ l.length ≤ 10
  · have hni : ∀ i : Nat, nn (i : Int) = fun (z : Option (Ex × List Value × H)) => z := fun i => by funext z; exact nn_ge (by omega) z
    have hb : ∀ a b : Int, AM.and .i64 (shr .i64 a b) 1 = bitI a b := fun _ _ => rfl
    have hle2 : ¬ (10 : Int) < (l.length : Int) := by omega
    have inner := fun (i : Nat) (x : Int) (_ : l[i]? = some x) => lp_all (F := f66_l2 rn 200010 v [.bool false, iv i] x l.length) (k := 200010) (l := l) (h := h) (fun j => [.bool false, iv j])
      (fun j y => decide (bitI x j = bitI y i)) (fun j => [.bool false, iv j]) 2 [.bool false, iv l.length] (ws := [.bool false, iv 0]) rfl (by omega)
      (by simp [f66_l2])
      (by
        intro j y hy
        have hj := (List.getElem?_eq_some_iff.1 hy).1
        have hadd : add .i64 (j : Int) 1 = (j : Int) + 1 := add64 (by omega) (by omega)
        have e1 := fun (K : Value → Option (Ex × List Value × H)) => getL hs hy K
        by_cases hq : bitI x j = bitI y i
        · simp [f66_l2, hj, hni, e1, hb, hq, hadd]
        · simp [f66_l2, hj, hni, e1, hb, hq])
    have hlp := lp_all (F := f66_l1 rn 200010 v 10 l.length) (k := 200010) (l := l) (h := h) (fun i => [.bool false, iv i])
      (fun i x => rowOk l i x) (fun i => [.bool false, iv i]) 0 [.bool false, iv l.length] (ws := [.bool false, iv 0]) rfl (by omega)
      (by simp [f66_l1])
      (by
        intro i x hx
        have hi := (List.getElem?_eq_some_iff.1 hx).1
        have hadd : add .i64 (i : Int) 1 = (i : Int) + 1 := add64 (by omega) (by omega)
        have e1 := fun (K : Value → Option (Ex × List Value × H)) => getL hs hx K
        have hall : rowOk l i x = (!decide (x < 0) && !decide (AM.shl .i64 1 (l.length : Int) ≤ x) && !decide (bitI x i = 1) && (List.range l.length).all fun j => decide (bitI x j = bitI (l.getD j 0) i)) := rfl
        by_cases h1 : x < 0
        · have : rowOk l i x = false := by rw [hall, decide_eq_true h1]; rfl
          simp [f66_l1, hi, e1, hn, hle2, h1, this]
        · by_cases h2 : AM.shl .i64 1 (l.length : Int) ≤ x
          · have : rowOk l i x = false := by rw [hall, decide_eq_true h2]; simp
            simp [f66_l1, hi, e1, hn, hle2, h1, hni, h2, this]
          · by_cases h3 : bitI x i = 1
            · have : rowOk l i x = false := by rw [hall, decide_eq_true h3]; simp
              simp [f66_l1, hi, e1, hn, hle2, h1, hni, h2, hb, h3, this]
            · rcases inner i x hx with ⟨j, y, hy, q2, _, q1⟩ | ⟨q2, q1⟩
              · have : rowOk l i x = false := by
                  have : ((List.range l.length).all fun j => decide (bitI x j = bitI (l.getD j 0) i)) = false := by
                    rw [List.all_eq_false]
                    refine ⟨j, List.mem_range.2 (List.getElem?_eq_some_iff.1 hy).1, ?_⟩
                    rw [show l.getD j 0 = y by simp [List.getD, hy], q2]; simp
                  rw [hall, this]; simp
                have hlq := fun (K : Ex → List Value → H → Option (Ex × List Value × H)) => lp_eq (K := K) q1
                simp [f66_l1, hi, e1, hn, hle2, h1, hni, h2, hb, h3, this, hlq]
              · have : rowOk l i x = true := by
                  have : ((List.range l.length).all fun j => decide (bitI x j = bitI (l.getD j 0) i)) = true := by
                    rw [List.all_eq_true]
                    intro j hj
                    have hj := List.mem_range.1 hj
                    have := q2 j _ (List.getElem?_eq_getElem hj)
                    simpa [List.getD, List.getElem?_eq_getElem hj] using this
                  rw [hall, this, decide_eq_false h1, decide_eq_false h2, decide_eq_false h3]; rfl
                have hlq := fun (K : Ex → List Value → H → Option (Ex × List Value × H)) => lp_eq (K := K) q1
                simp [f66_l1, hi, e1, hn, hle2, h1, hni, h2, hb, h3, this, hlq, hadd])
    rcases hlp with ⟨j, y, hy, q2, _, q1⟩ | ⟨q2, q1⟩
    · have hv : validG l = false := by
        rw [Bool.eq_false_iff]
        intro hc
        have := (validG_iff hl).1 hc j y hy
        rw [this] at q2
        cases q2
      rw [hv]
      exact p66 (k := 200010) (by simp [f66, hn, lp_eq q1]) rfl (.refl _)
    · have hv : validG l = true := (validG_iff hl).2 q2
      rw [hv]
      exact p66 (k := 200010) (by simp [f66, hn, lp_eq q1, show (1 : Int) ≤ (l.length : Int) by omega, show (l.length : Int) ≤ 10 by omega]) rfl (.refl _)
  · have hv : validG l = false := by
      unfold validG
      rw [Bool.eq_false_iff]
      intro hc
      simp only [Bool.and_eq_true, decide_eq_true_iff] at hc
      exact hl hc.1
    rw [hv]
    cases l with
    | nil =>
      have q1 : lpGo (f66_l1 rn 1 v 10 0) 1 [.bool false, iv 0] h = some (.exit 0, [.bool false, iv 0], h) := lpGo_exit (by simp [f66_l1])
      exact p66 (k := 1) (by simp [f66, hn, lp_eq q1]) rfl (.refl _)
    | cons x l =>
      have hle2 : (10 : Int) < ((x :: l).length : Int) := by simp at hl ⊢; omega
      have hpos : 0 < (x :: l).length := by simp
      have e1 := fun (K : Value → Option (Ex × List Value × H)) => getL hs (i := 0) (x := x) rfl K
      generalize x :: l = l' at *
      have e1' : ∀ (K : Value → Option (Ex × List Value × H)), (six v 0 1 fun b o => (h.cell b o).bind K) = K (iv x) := e1
      have q1 : lpGo (f66_l1 rn 1 v 10 l'.length) 1 [.bool false, iv 0] h = some (.ret, [.bool false, iv 0], h) := lpGo_ret (by simp [f66_l1, hpos, e1', hn, hle2])
      exact p66 (k := 1) (by simp [f66, hn, lp_eq q1]) rfl (.refl _)

theorem s19 {v : Value} {l : List Int} {h : H} (hs : SlR h 3 1 v (cellsI l)) : rn 19 #[v] h = some (.bool (validG l), h) := by
  refine p19 (k := 0) ?_ rfl (.refl _)
  unfold f19
  rw [calls_eq (xs := [v, iv 10]) (s66 hs), asB_bool]

theorem validG_take {l : List Int} : validG (l.take 14) = validG l := by
  by_cases hc : l.length ≤ 10
  · rw [List.take_of_length_le (by omega)]
  · unfold validG
    rw [decide_eq_false (show ¬ (l.take 14).length ≤ 10 by simp; omega), decide_eq_false hc]
    simp

end Go.AM

end

section

/- Graphs of at most ten nodes, in plain words: sets as numbers, and what a node reaches within a set. -/
namespace Go.AM
/-! ### Sets as numbers -/
/-- The set of the numbers below n with a property. -/
def mkS (p : Nat → Bool) : Nat → Nat
  | 0 => 0
  | n + 1 => mkS p n ||| (if p n = true then 2 ^ n else 0)

theorem mkS_lt (p : Nat → Bool) : ∀ n, mkS p n < 2 ^ n := by
  intro n
  induction n with
  | zero => simp [mkS]
  | succ n ih =>
    simp only [mkS]
    have h1 : mkS p n < 2 ^ (n + 1) := Nat.lt_trans ih (Nat.pow_lt_pow_right (by omega) (by omega))
    refine Nat.or_lt_two_pow h1 ?_
    split
    · exact Nat.pow_lt_pow_right (by omega) (by omega)
    · exact Nat.two_pow_pos _

theorem mkS_bit (p : Nat → Bool) : ∀ n i, (mkS p n).testBit i = (decide (i < n) && p i) := by
  intro n
  induction n with
  | zero => intro i; simp [mkS]
  | succ n ih =>
    intro i
    simp only [mkS]
    rw [Nat.testBit_or, ih]
    by_cases hi : i = n
    · subst hi
      cases hp : p i <;> simp
    · have h1 : (if p n = true then 2 ^ n else 0).testBit i = false := by
        split
        · rw [Nat.testBit_two_pow]; simp; omega
        · simp
      rw [h1, Bool.or_false]
      have : decide (i < n) = decide (i < n + 1) := by rw [decide_eq_decide]; omega
      rw [this]

theorem big_bit {a n i : Nat} (ha : a < 2 ^ n) (hi : n ≤ i) : a.testBit i = false := Nat.testBit_lt_two_pow (Nat.lt_of_lt_of_le ha (Nat.pow_le_pow_right (by omega) hi))

theorem bit_lt {a n i : Nat} (ha : a < 2 ^ n) (h : a.testBit i = true) : i < n := by
  refine Classical.byContradiction fun hc => ?_
  rw [big_bit ha (by omega)] at h
  cases h

theorem set_ext {a b n : Nat} (ha : a < 2 ^ n) (hb : b < 2 ^ n) (h : ∀ i, i < n → a.testBit i = b.testBit i) : a = b := by
  apply Nat.eq_of_testBit_eq
  intro i
  by_cases hi : i < n
  · exact h i hi
  · rw [big_bit ha (by omega), big_bit hb (by omega)]

/-- The numbers of a set, rising. -/
def elts (s : Nat) : List Nat := (List.range 10).filter fun i => s.testBit i

theorem mem_elts {s i : Nat} (hs : s < 1024) : i ∈ elts s ↔ s.testBit i = true := by
  unfold elts
  rw [List.mem_filter, List.mem_range]
  exact ⟨And.right, fun h => ⟨bit_lt (n := 10) hs h, h⟩⟩

theorem elts_all : ((List.range 1024).all fun n => decide (n = 0) || (decide (elts n = low n :: elts (n &&& (n - 1))) && decide (n &&& (n - 1) < n))) = true := by decide +kernel

theorem elts_next {n : Nat} (h0 : 0 < n) (h : n < 1024) : elts n = low n :: elts (n &&& (n - 1)) ∧ n &&& (n - 1) < n := by
  have := List.all_eq_true.1 elts_all n (List.mem_range.2 h)
  simp only [Bool.or_eq_true, Bool.and_eq_true, decide_eq_true_iff] at this
  rcases this with h1 | h1
  · omega
  · exact h1

theorem elts_zero : elts 0 = [] := by decide

theorem low_bit {n : Nat} (h0 : 0 < n) (h : n < 1024) : n.testBit (low n) = true := by
  rw [← mem_elts h, (elts_next h0 h).1]
  exact List.mem_cons_self

theorem low_min {n i : Nat} (h : n < 1024) (hi : n.testBit i = true) : low n ≤ i := by
  have h0 : 0 < n := by
    refine Nat.pos_of_ne_zero fun e => ?_
    subst e
    simp at hi
  have h1 := (mem_elts h).2 hi
  have hp : (elts n).Pairwise (· < ·) := by
    unfold elts
    exact List.Pairwise.filter _ List.pairwise_lt_range
  rw [(elts_next h0 h).1] at h1 hp
  rcases List.mem_cons.1 h1 with h2 | h2
  · omega
  · exact Nat.le_of_lt ((List.pairwise_cons.1 hp).1 i h2)

theorem elts_len (n : Nat) : (elts n).length = pop n := by
  unfold elts pop
  rw [List.countP_eq_length_filter]

theorem elts_nodup (n : Nat) : (elts n).Nodup := by
  unfold elts
  exact List.Pairwise.filter _ List.nodup_range

/-- Fewer numbers in a smaller set. -/
theorem pop_lt {a b i : Nat} (hb : b < 1024) (h : ∀ j, a.testBit j = true → b.testBit j = true) (hi : b.testBit i = true) (ha : a.testBit i = false) : pop a < pop b := by
  have hi10 : i < 10 := bit_lt (n := 10) hb hi
  have key : ∀ n, i < n → ((List.range n).countP fun j => a.testBit j) < ((List.range n).countP fun j => b.testBit j) := by
    intro n
    induction n with
    | zero => intro h; omega
    | succ n ih =>
      intro hn
      rw [List.range_succ, List.countP_append, List.countP_append]
      have hle : ((List.range n).countP fun j => a.testBit j) ≤ ((List.range n).countP fun j => b.testBit j) := List.countP_mono_left fun j _ hj => h j hj
      by_cases hin : i = n
      · subst hin
        simp [hi, ha]
        omega
      · have := ih (by omega)
        have h2 : ([n].countP fun j => a.testBit j) ≤ ([n].countP fun j => b.testBit j) := List.countP_mono_left fun j _ hj => h j hj
        omega
  exact key 10 hi10

theorem pop_le_of {a b : Nat} (h : ∀ j, a.testBit j = true → b.testBit j = true) : pop a ≤ pop b := List.countP_mono_left fun j _ hj => h j hj

theorem pop_le_n {a n : Nat} (hn : n ≤ 10) (ha : a < 2 ^ n) : pop a ≤ n := by
  unfold pop
  rw [show 10 = n + (10 - n) by omega, List.range_add, List.countP_append]
  have h1 : ((List.range n).countP fun i => a.testBit i) ≤ n := Nat.le_trans List.countP_le_length (by simp)
  have h2 : (((List.range (10 - n)).map (n + ·)).countP fun i => a.testBit i) = 0 := by
    rw [List.countP_eq_zero]
    intro x hx
    obtain ⟨y, _, rfl⟩ := List.mem_map.1 hx
    rw [big_bit ha (by omega)]
    simp
  omega

/-! ### Graphs -/
/-- The neighbours of a node. -/
def nb (g : List Nat) (i : Nat) : Nat := g.getD i 0

def adj (g : List Nat) (a b : Nat) : Bool := (nb g a).testBit b

/-- Arrows between at most ten nodes. -/
structure GrB (g : List Nat) : Prop where
  len : g.length ≤ 10
  lt : ∀ x ∈ g, x < 2 ^ g.length

theorem GrB.nb_lt {g : List Nat} (hg : GrB g) (i : Nat) : nb g i < 2 ^ g.length := by
  unfold nb
  rw [List.getD_eq_getElem?_getD]
  cases h : g[i]? with
  | none => exact Nat.two_pow_pos _
  | some x => exact hg.lt x (List.mem_of_getElem? h)

theorem GrB.adj_lt {g : List Nat} (hg : GrB g) {a b : Nat} (h : adj g a b = true) : a < g.length ∧ b < g.length := by
  refine ⟨Classical.byContradiction fun hc => ?_, bit_lt (hg.nb_lt a) h⟩
  unfold adj nb at h
  rw [List.getD_eq_getElem?_getD, List.getElem?_eq_none (by omega)] at h
  simp at h

theorem GrB.pow {g : List Nat} (hg : GrB g) : 2 ^ g.length ≤ 1024 := Nat.pow_le_pow_right (n := 2) (by omega) hg.len

/-- What a node reaches within a set. -/
inductive Rch (g : List Nat) (W : Nat) (v : Nat) : Nat → Prop
  | base : Rch g W v v
  | step {a b : Nat} : Rch g W v a → adj g a b = true → W.testBit b = true → Rch g W v b

open Classical in
/-- The set of these. -/
noncomputable def rch (g : List Nat) (W v : Nat) : Nat := mkS (fun u => decide (Rch g W v u)) 10

theorem rch_lt (g : List Nat) (W v : Nat) : rch g W v < 1024 := mkS_lt _ 10

theorem Rch.bound {g : List Nat} {W v u : Nat} (hv : v < 10) (hW : W < 1024) (h : Rch g W v u) : u < 10 := by
  cases h with
  | base => exact hv
  | step _ _ hb => exact bit_lt (n := 10) hW hb

open Classical in
theorem rch_bit {g : List Nat} {W v u : Nat} (hv : v < 10) (hW : W < 1024) : (rch g W v).testBit u = true ↔ Rch g W v u := by
  unfold rch
  rw [mkS_bit, Bool.and_eq_true, decide_eq_true_iff, decide_eq_true_iff]
  exact ⟨And.right, fun h => ⟨h.bound hv hW, h⟩⟩

/-- A set that has the node, and of which all has been reached, and that is closed, is the set of all that is reached. -/
theorem rch_eq {g : List Nat} {W v S : Nat} (hv : v < 10) (hW : W < 1024) (hS : S < 1024) (h0 : S.testBit v = true) (h1 : ∀ u, S.testBit u = true → Rch g W v u) (h2 : ∀ a b, S.testBit a = true → adj g a b = true → W.testBit b = true → S.testBit b = true) : S = rch g W v := by
  refine set_ext (n := 10) hS (rch_lt g W v) fun i hi => ?_
  clear hi
  rw [Bool.eq_iff_iff, rch_bit hv hW]
  refine ⟨h1 i, fun h => ?_⟩
  induction h with
  | base => exact h0
  | step _ hab hb ih => exact h2 _ _ ih hab hb

theorem orAll {g : List Nat} {W u : Nat} : ∀ (L : List Nat) (s : Nat), (L.foldl (fun s i => s ||| (nb g i &&& W)) s).testBit u = true ↔ s.testBit u = true ∨ ∃ i ∈ L, adj g i u = true ∧ W.testBit u = true := by
  intro L
  induction L with
  | nil => intro s; simp
  | cons i L ih =>
    intro s
    rw [List.foldl_cons, ih, Nat.testBit_or, Nat.testBit_and, Bool.or_eq_true, Bool.and_eq_true]
    constructor
    · rintro ((h | h) | ⟨j, hj, h⟩)
      · exact .inl h
      · exact .inr ⟨i, List.mem_cons_self, h⟩
      · exact .inr ⟨j, List.mem_cons_of_mem _ hj, h⟩
    · rintro (h | ⟨j, hj, h⟩)
      · exact .inl (.inl h)
      · rcases List.mem_cons.1 hj with rfl | hj
        · exact .inl (.inr h)
        · exact .inr ⟨j, hj, h⟩

/-- One step of the search. -/
def grow (g : List Nat) (W S : Nat) : Nat := (elts S).foldl (fun s i => s ||| (nb g i &&& W)) S

theorem grow_bit {g : List Nat} {W S u : Nat} (hS : S < 1024) : (grow g W S).testBit u = true ↔ S.testBit u = true ∨ ∃ i, S.testBit i = true ∧ adj g i u = true ∧ W.testBit u = true := by
  unfold grow
  rw [orAll]
  simp only [mem_elts hS]

/-- One round of the document's search. -/
def stepD (g : List Nat) (W : Nat) (m i : Nat) : Nat := if m.testBit i = true then m ||| (nb g i &&& W) else m

def roundD (g : List Nat) (W m : Nat) : Nat := (List.range g.length).foldl (stepD g W) m

theorem stepD_mono {g : List Nat} {W m i u : Nat} (h : m.testBit u = true) : (stepD g W m i).testBit u = true := by
  unfold stepD
  split
  · rw [Nat.testBit_or, h]; rfl
  · exact h

theorem foldD_mono {g : List Nat} {W u : Nat} : ∀ (L : List Nat) (m : Nat), m.testBit u = true → (L.foldl (stepD g W) m).testBit u = true := by
  intro L
  induction L with
  | nil => intro m h; exact h
  | cons i L ih => intro m h; exact ih _ (stepD_mono h)

theorem foldD_lt {g : List Nat} {W n : Nat} (hW : W < 2 ^ n) : ∀ (L : List Nat) (m : Nat), m < 2 ^ n → L.foldl (stepD g W) m < 2 ^ n := by
  intro L
  induction L with
  | nil => intro m h; exact h
  | cons i L ih =>
    intro m h
    refine ih _ ?_
    unfold stepD
    split
    · exact Nat.or_lt_two_pow h (Nat.and_lt_two_pow _ hW)
    · exact h

theorem foldD_rch {g : List Nat} {W v : Nat} : ∀ (L : List Nat) (m : Nat), (∀ u, m.testBit u = true → Rch g W v u) → ∀ u, (L.foldl (stepD g W) m).testBit u = true → Rch g W v u := by
  intro L
  induction L with
  | nil => intro m h; exact h
  | cons i L ih =>
    intro m h
    refine ih _ fun u hu => ?_
    unfold stepD at hu
    split at hu
    · rename_i hi
      rw [Nat.testBit_or, Nat.testBit_and, Bool.or_eq_true, Bool.and_eq_true] at hu
      rcases hu with hu | ⟨h1, h2⟩
      · exact h u hu
      · exact .step (h i hi) h1 h2
    · exact h u hu

theorem foldD_closed {g : List Nat} {W : Nat} : ∀ (L : List Nat) (m : Nat), L.foldl (stepD g W) m = m → ∀ a b, a ∈ L → m.testBit a = true → adj g a b = true → W.testBit b = true → m.testBit b = true := by
  intro L
  induction L with
  | nil => intro m _ a b h; cases h
  | cons i L ih =>
    intro m hm a b ha hma hab hb
    rw [List.foldl_cons] at hm
    have h1 : stepD g W m i = m := by
      apply Nat.eq_of_testBit_eq
      intro u
      rw [Bool.eq_iff_iff]
      refine ⟨fun h => ?_, stepD_mono⟩
      rw [← hm]
      exact foldD_mono L _ h
    rcases List.mem_cons.1 ha with rfl | ha
    · unfold stepD at h1
      rw [if_pos hma] at h1
      rw [← h1, Nat.testBit_or, Nat.testBit_and]
      have : (nb g a).testBit b = true := hab
      rw [this, hb]
      simp
    · rw [h1] at hm
      exact ih m hm a b ha hma hab hb

/-- The document's search finds all that is reached. -/
theorem reachD {g : List Nat} {W v : Nat} (hg : GrB g) (hv : v < g.length) (hW : W < 2 ^ g.length) : (List.range g.length).foldl (fun m _ => roundD g W m) (2 ^ v) = rch g W v := by
  have hlen := hg.len
  have hW' : W < 1024 := Nat.lt_of_lt_of_le hW hg.pow
  have key : ∀ k, let m := (List.range k).foldl (fun m _ => roundD g W m) (2 ^ v)
      m < 2 ^ g.length ∧ m.testBit v = true ∧ (∀ u, m.testBit u = true → Rch g W v u) ∧ (roundD g W m = m ∨ k + 1 ≤ pop m) := by
    intro k
    induction k with
    | zero =>
      refine ⟨Nat.pow_lt_pow_right (by omega) hv, by simp [Nat.testBit_two_pow], fun u hu => ?_, .inr ?_⟩
      · rw [List.range_zero, List.foldl_nil, Nat.testBit_two_pow] at hu
        have : v = u := by simpa using hu
        subst this
        exact .base
      · have : pop 0 < pop (2 ^ v) := pop_lt (i := v) (Nat.lt_of_lt_of_le (Nat.pow_lt_pow_right (by omega) hv) hg.pow) (fun j h => by simp at h) (by simp [Nat.testBit_two_pow]) (by simp)
        simp only [List.range_zero, List.foldl_nil]
        omega
    | succ k ih =>
      simp only at ih
      simp only [List.range_succ, List.foldl_append, List.foldl_cons, List.foldl_nil]
      generalize (List.range k).foldl (fun m _ => roundD g W m) (2 ^ v) = m at *
      obtain ⟨h1, h2, h3, h4⟩ := ih
      refine ⟨foldD_lt hW _ _ h1, foldD_mono _ _ h2, foldD_rch _ _ h3, ?_⟩
      by_cases he : roundD g W m = m
      · left
        rw [he]; exact he
      · right
        have hp := h4.resolve_left he
        obtain ⟨i, hi⟩ : ∃ i, (roundD g W m).testBit i ≠ m.testBit i := by
          refine Classical.byContradiction fun hc => he (Nat.eq_of_testBit_eq fun i => Classical.byContradiction fun h => hc ⟨i, h⟩)
        have hmi : m.testBit i = false := by
          cases hh : m.testBit i with
          | false => rfl
          | true =>
            have : (roundD g W m).testBit i = true := foldD_mono _ _ hh
            rw [this, hh] at hi
            exact absurd rfl hi
        have hri : (roundD g W m).testBit i = true := by
          cases hh : (roundD g W m).testBit i with
          | true => rfl
          | false => rw [hh, hmi] at hi; exact absurd rfl hi
        have hlt : roundD g W m < 1024 := Nat.lt_of_lt_of_le (foldD_lt hW _ _ h1) hg.pow
        have := pop_lt hlt (fun j hj => foldD_mono (g := g) (W := W) (List.range g.length) m hj) hri hmi
        omega
  obtain ⟨h1, h2, h3, h4⟩ := key g.length
  generalize (List.range g.length).foldl (fun m _ => roundD g W m) (2 ^ v) = m at *
  have hfix : roundD g W m = m := by
    refine h4.resolve_right fun h => ?_
    have := pop_le_n hlen h1
    omega
  refine rch_eq (by omega) hW' (Nat.lt_of_lt_of_le h1 hg.pow) h2 h3 fun a b ha hab hb => ?_
  exact foldD_closed _ m hfix a b (List.mem_range.2 (hg.adj_lt hab).1) ha hab hb

end Go.AM

end

section

/- The nodes of a set; what a node reaches; is a set connected? -/
namespace Go.AM
open Go.Proofs
variable {R : Type}
attribute [local simp] nx_eq nx_new nx_set blk_new blk_set asI_int asK_int asB_bool asP_ptr al_eq bx_eq len_slice onE_exit onE_ret onR_ret Value.cells d3 d22 d23 cell_new cell_set rd_new rd_set off eq lt le ifB gv out
/-- Numbers, as they stand in a row. -/
abbrev cellsN (l : List Nat) : List (List Value) := l.map fun (n : Nat) => [iv (n : Int)]

theorem cellsN_eq (l : List Nat) : cellsI (l.map Int.ofNat) = cellsN l := by rw [cellsI, List.map_map]; rfl

/-- A graph that is valid. -/
structure GrN (g : List Nat) : Prop extends GrB g where
  pos : 1 ≤ g.length
  irr : ∀ a, adj g a a = false
  sym : ∀ a b, adj g a b = adj g b a

theorem bitI_nat {a p : Nat} (ha : a < 2 ^ 63) (hp : p ≤ 64) : bitI a p = if a.testBit p then 1 else 0 := bit_nat ha hp

theorem valid_nat {l : List Int} (hv : validG l = true) : ∃ g : List Nat, l = g.map Int.ofNat ∧ GrN g := by
  have hl : 1 ≤ l.length ∧ l.length ≤ 10 := by
    unfold validG at hv
    simp only [Bool.and_eq_true, decide_eq_true_iff] at hv
    exact hv.1
  have hrow := (validG_iff hl).1 hv
  have hshl : AM.shl .i64 1 (l.length : Int) = ((2 ^ l.length : Nat) : Int) := shl1_nat (by omega)
  have hpow : 2 ^ l.length ≤ 1024 := Nat.pow_le_pow_right (n := 2) (by omega) hl.2
  have hb : ∀ (i : Nat) (x : Int), l[i]? = some x → 0 ≤ x ∧ x < (2 ^ l.length : Nat) ∧ bitI x i ≠ 1 ∧ ∀ (j : Nat) (y : Int), l[j]? = some y → bitI x j = bitI y i := by
    intro i x hx
    have := hrow i x hx
    unfold rowOk at this
    rw [hshl] at this
    simp only [Bool.and_eq_true, Bool.not_eq_true', decide_eq_false_iff_not, List.all_eq_true, List.mem_range, decide_eq_true_iff] at this
    refine ⟨by omega, by omega, this.1.2, fun j y hy => ?_⟩
    have h := this.2 j (List.getElem?_eq_some_iff.1 hy).1
    simpa [List.getD, hy] using h
  have hmap : l = (l.map Int.toNat).map Int.ofNat := by
    rw [List.map_map]
    symm
    conv => rhs; rw [← List.map_id l]
    refine List.map_congr_left fun x hx => ?_
    obtain ⟨i, hi, rfl⟩ := List.getElem_of_mem hx
    have := hb i _ (List.getElem?_eq_getElem hi)
    simp only [Function.comp_apply, id_eq]
    show ((l[i].toNat : Nat) : Int) = l[i]
    omega
  refine ⟨l.map Int.toNat, hmap, ⟨⟨by simpa using hl.2, fun x hx => ?_⟩, by simpa using hl.1, fun a => ?_, fun a b => ?_⟩⟩
  · obtain ⟨y, hy, rfl⟩ := List.mem_map.1 hx
    obtain ⟨i, hi, rfl⟩ := List.getElem_of_mem hy
    have := hb i _ (List.getElem?_eq_getElem hi)
    rw [List.length_map]
    omega
  all_goals
    have hnb : ∀ i, (∃ x : Nat, l[i]? = some (x : Int) ∧ nb (l.map Int.toNat) i = x ∧ x < 1024) ∨ (l[i]? = none ∧ nb (l.map Int.toNat) i = 0) := by
      intro i
      unfold nb
      rw [List.getD_eq_getElem?_getD, List.getElem?_map]
      cases hx : l[i]? with
      | none => exact .inr ⟨rfl, rfl⟩
      | some x =>
        have := hb i x hx
        exact .inl ⟨x.toNat, by simp; omega, rfl, by omega⟩
  · unfold adj
    rcases hnb a with ⟨x, h1, h2, h3⟩ | ⟨_, h2⟩
    · rw [h2]
      have := (hb a x h1).2.2.1
      rw [bitI_nat (by omega) (by have := (List.getElem?_eq_some_iff.1 h1).1; omega)] at this
      cases hq : x.testBit a with
      | false => rfl
      | true => rw [hq] at this; simp at this
    · rw [h2]; simp
  · unfold adj
    rcases hnb a with ⟨x, h1, h2, h3⟩ | ⟨h1, h2⟩
    · rcases hnb b with ⟨y, h4, h5, h6⟩ | ⟨h4, h5⟩
      · rw [h2, h5]
        have := (hb a x h1).2.2.2 b y h4
        rw [bitI_nat (by omega) (by have := (List.getElem?_eq_some_iff.1 h4).1; omega), bitI_nat (by omega) (by have := (List.getElem?_eq_some_iff.1 h1).1; omega)] at this
        cases hq : x.testBit b <;> cases hr : y.testBit a <;> simp [hq, hr] at this ⊢
      · rw [h5]
        have hbl : l.length ≤ b := by
          refine Classical.byContradiction fun hc => ?_
          rw [List.getElem?_eq_getElem (by omega)] at h4
          cases h4
        have hxl : x < 2 ^ l.length := by have := (hb a x h1).2.1; omega
        rw [h2, big_bit hxl hbl]; simp
    · rw [h2]
      have hal : l.length ≤ a := by
        refine Classical.byContradiction fun hc => ?_
        rw [List.getElem?_eq_getElem (by omega)] at h1
        cases h1
      rcases hnb b with ⟨y, h4, h5, h6⟩ | ⟨h4, h5⟩
      · have hyl : y < 2 ^ l.length := by have := (hb b y h4).2.1; omega
        rw [h5, big_bit hyl hal]; simp
      · rw [h5]; simp

theorem wr64u {n : Nat} (h : n < 1024) : wr .u64 (n : Int) = n := by
  unfold wr IntKind.wrap
  show (n : Int) % 2 ^ 64 = n
  omega

theorem getN {h : H} {v : Value} {g : List Nat} (hs : SlR h 3 1 v (cellsN g)) {i : Nat} (hi : i < g.length) (K : Value → Option R) : (six v (i : Int) 1 fun b o => (h.cell b o).bind K) = K (iv (nb g i : Nat)) := by
  have : g[i]? = some (nb g i) := by unfold nb; rw [List.getD_eq_getElem?_getD, List.getElem?_eq_getElem hi]; rfl
  exact hs.c0 (by omega) (x := [iv (nb g i : Nat)]) (by simp [this]) rfl K

/-- The nodes of a set. -/
theorem s76 {S : Nat} (hS : S < 1024) (h : H) : ∃ v' h', rn 76 #[iv S] h = some (v', h') ∧ Exw h h' ∧ SlR h' 3 1 v' (cellsN (elts S)) := by
  obtain ⟨e, ws', h', hl, rfl, xg, v, w, hap, rfl⟩ := lpGo_inv (F := f76_l1 rn 2000)
    (fun d ws g => Ext h g ∧ ∃ (v : Value) (x : Nat) (L : List Nat), ws = [v, iv x] ∧ d = x ∧ x < 1024 ∧ L ++ elts x = elts S ∧ AqR h.nx g 3 1 v (cellsN L))
    (fun e ws g => e = .exit 0 ∧ Ext h g ∧ ∃ v w, AqR h.nx g 3 1 v (cellsN (elts S)) ∧ ws = [v, w])
    (by
      rintro d ws g ⟨xg, v, x, L, rfl, rfl, hx, hL, hap⟩
      by_cases hx0 : d = 0
      · subst hx0
        rw [elts_zero, List.append_nil] at hL
        subst hL
        exact ⟨.exit 0, [v, iv 0], _, by simp [f76_l1], .inr ⟨by simp, rfl, xg, v, iv 0, hap, rfl⟩⟩
      · have h0 : 0 < d := Nat.pos_of_ne_zero hx0
        obtain ⟨h1, h2⟩ := elts_next h0 hx
        have c89 := fun (K : Value → H → Option (Ex × List Value × H)) => calls_eq (K := K) (xs := [.int .u64 d]) (s89 h0 hx g)
        have hsub : sub .i64 (d : Int) 1 = ((d - 1 : Nat) : Int) := by rw [sub64 (by omega) (by omega)]; omega
        have hand : AM.and .i64 (d : Int) ((d - 1 : Nat) : Int) = ((d &&& (d - 1) : Nat) : Int) := and_nat (by omega) (by omega)
        have hLl : L.length ≤ 10 := by
          have h3 := congrArg List.length hL
          rw [List.length_append, elts_len S] at h3
          have := pop_le_n (Nat.le_refl 10) hS
          omega
        obtain ⟨v', g2, e2, a2, n2, k2, b2, hb2, hb2'⟩ := hap.push app22 app22 (bls22 (low d : Int)) rfl rfl (by simp; omega) xg.nx
        have ee : ∀ (K : Value → H → Option (Ex × List Value × H)), (bls Tryd.prog g 22 1 [(0, iv (low d : Nat))] fun y h2 => app Tryd.prog h2 22 22 v y K) = K v' g2 := fun K => e2 K
        refine ⟨.normal, [v', iv (d &&& (d - 1) : Nat)], g2, ?_, .inl ⟨rfl, d &&& (d - 1), h2, ⟨by have := xg.nx; omega, fun b hb => ?_⟩, v', d &&& (d - 1), L ++ [low d], rfl, rfl, by omega, ?_, ?_⟩⟩
        · unfold f76_l1
          rw [show AM.gv [v, iv d] 1 = iv d from rfl, show AM.gv [v, iv d] 0 = v from rfl, asI_int, show AM.eq (d : Int) 0 = false by simp; omega, show (!false) = true from rfl, ifB_true, asI_int, wr64u hx, c89, asI_int, ee, asI_int, asI_int, hsub, hand]
          rfl
        · rw [k2 b (by have := xg.nx; omega) (fun e => by have := (hap.blkOf e).1; omega)]
          exact xg.blk b hb
        · rw [← hL, h1]; simp
        · have : cellsN (L ++ [low d]) = cellsN L ++ [[iv (low d : Int)]] := by simp
          rw [this]; exact a2)
    S 2000 (by omega) ⟨.refl _, .slice none 0 0, S, [], rfl, rfl, hS, rfl, .nil⟩
  obtain ⟨h2, e2, m2, w2⟩ := x76 (k := 2000) (n0 := S) (h := h) (h1 := h') (v := v) (by
    unfold f76
    exact (lp_eq hl).trans rfl) (by obtain ⟨x, y, z, hz⟩ := hap.isSl; rw [hz]; rfl)
  exact ⟨v, h2, e2, w2 xg, hap.slR.ext m2.ext⟩

/-- What a node reaches within a set. -/
theorem s78 {tv : Value} {g : List Nat} {W v : Nat} {h : H} (hg : GrB g) (hs : SlR h 3 1 tv (cellsN g)) (hv : v < g.length) (hW : W < 2 ^ g.length) : rn 78 #[tv, iv v, iv W] h = some (iv (rch g W v : Nat), h) := by
  have hlen := hg.len
  have hpow := hg.pow
  have hW' : W < 1024 := Nat.lt_of_lt_of_le hW hpow
  have hinner : ∀ (S : Nat) (nv : Value) (h2 : H), Ext h h2 → S < 2 ^ g.length → SlR h2 3 1 nv (cellsN (elts S)) →
      lpGo (f78_l2 rn 2000 tv W nv (elts S).length) 2000 [iv S, iv 0] h2 = some (.exit 2, [iv (grow g W S : Nat), iv (elts S).length], h2) := by
    intro S nv h2 x2 hS hn
    have hS' : S < 1024 := Nat.lt_of_lt_of_le hS hpow
    have hpl : (elts S).length ≤ 10 := by rw [elts_len]; exact pop_le_n (Nat.le_refl 10) hS'
    have hl := lp_same (σ := Nat) (ρ := Empty) (F := f78_l2 rn 2000 tv W nv (elts S).length) (k := 2000) (l := elts S) (h := h2) (fun i s => [iv s, iv i])
      (fun _ i s => .inl (s ||| (nb g i &&& W))) (fun _ s => s < 1024) (fun _ => .ret) (fun _ => []) 2 (fun s => [iv s, iv (elts S).length]) (ws := [iv S, iv 0]) (s0 := S) rfl hS' (by omega) (by simp)
      (fun _ _ => by simp [f78_l2])
      (by
        intro i x s hx hI
        have hi := (List.getElem?_eq_some_iff.1 hx).1
        have hxS := (mem_elts hS').1 (List.mem_of_getElem? hx)
        have hxl : x < g.length := bit_lt hS hxS
        have hnw : nb g x &&& W < 1024 := Nat.and_lt_two_pow (n := 10) _ hW'
        refine ⟨fun s' hs' => by cases hs'; exact Nat.or_lt_two_pow (n := 10) hI hnw, ?_⟩
        have e1 : ∀ (K : Value → Option (Ex × List Value × H)), (six nv (i : Int) 1 fun b o => (h2.cell b o).bind K) = K (iv x) := fun K => hn.c0 (by omega) (x := [iv x]) (by simp [hx]) rfl K
        have e2 := fun (K : Value → Option (Ex × List Value × H)) => getN (hs.ext x2) hxl K
        have hand : AM.and .i64 (nb g x : Int) (W : Int) = ((nb g x &&& W : Nat) : Int) := and_nat (by have := hg.nb_lt x; omega) (by omega)
        have hor : AM.or .i64 (s : Int) ((nb g x &&& W : Nat) : Int) = ((s ||| (nb g x &&& W) : Nat) : Int) := or_nat (by omega) (by omega)
        have hadd : add .i64 (i : Int) 1 = (i : Int) + 1 := add64 (by omega) (by omega)
        simp [f78_l2, hi, e1, e2, hand, hor, hadd, rnd])
    rw [itL_inl (fun _ i s => s ||| (nb g i &&& W)), foldI_foldl (fun i s => s ||| (nb g i &&& W))] at hl
    exact hl.1
  obtain ⟨e, ws', h', hl, rfl, xg, w, rfl⟩ := lpGo_inv (F := f78_l1 rn 2000 tv W)
    (fun d ws h2 => Ext h h2 ∧ ∃ S : Nat, ws = [iv 0, iv S] ∧ S < 2 ^ g.length ∧ d + pop S = 10 ∧ S.testBit v = true ∧ ∀ u, S.testBit u = true → Rch g W v u)
    (fun e ws h2 => e = .ret ∧ Ext h h2 ∧ ∃ w, ws = [iv (rch g W v : Nat), w])
    (by
      rintro d ws h2 ⟨x2, S, rfl, hS, hd, hSv, hSr⟩
      have hS' : S < 1024 := Nat.lt_of_lt_of_le hS hpow
      obtain ⟨nv, h3, e76, x3w, hn⟩ := s76 hS' h2
      have x3 := x3w.toExt
      have hl := hinner S nv h3 (x2.trans x3) hS hn
      have hnl : ∀ {T : Type} (K : Int → Option T), len nv K = K ((elts S).length : Int) := fun K => by rw [hn.len]; simp
      have start : f78_l1 rn 2000 tv W [iv 0, iv S] h2 = if grow g W S = S then some (.ret, [iv S, iv S], h3) else some (.normal, [iv 0, iv (grow g W S : Nat)], h3) := by
        unfold f78_l1
        rw [show AM.gv [iv 0, iv S] 1 = iv S from rfl, calls_eq (xs := [iv S]) e76, hnl]
        refine (lp_eq hl).trans ?_
        rw [onE_exit, if_pos rfl, show AM.gv [iv (grow g W S : Nat), iv (elts S).length] 0 = iv (grow g W S : Nat) from rfl, asI_int, asI_int]
        by_cases hq : grow g W S = S
        · rw [if_pos hq, hq, show AM.eq (S : Int) (S : Int) = true by simp, ifB_true]; rfl
        · rw [if_neg hq, show AM.eq (grow g W S : Int) (S : Int) = false by simp; omega, ifB_false]; rfl
      rw [start]
      by_cases hq : grow g W S = S
      · rw [if_pos hq]
        refine ⟨_, _, _, rfl, .inr ⟨by simp, rfl, x2.trans x3, iv S, ?_⟩⟩
        rw [rch_eq (g := g) (W := W) (v := v) (by omega) hW' hS' hSv hSr fun a b ha hab hb => by
          rw [← hq, grow_bit hS']
          exact .inr ⟨a, ha, hab, hb⟩]
      · rw [if_neg hq]
        have hsub : ∀ u, S.testBit u = true → (grow g W S).testBit u = true := fun u hu => (grow_bit hS').2 (.inl hu)
        have hglt : grow g W S < 2 ^ g.length := by
          have key : ∀ (L : List Nat) (s : Nat), s < 2 ^ g.length → L.foldl (fun s i => s ||| (nb g i &&& W)) s < 2 ^ g.length := by
            intro L
            induction L with
            | nil => intro s h; exact h
            | cons i L ih => intro s h; exact ih _ (Nat.or_lt_two_pow h (Nat.and_lt_two_pow _ hW))
          exact key _ _ hS
        obtain ⟨i, hi⟩ : ∃ i, (grow g W S).testBit i ≠ S.testBit i := by
          refine Classical.byContradiction fun hc => hq (Nat.eq_of_testBit_eq fun i => Classical.byContradiction fun h => hc ⟨i, h⟩)
        have hSi : S.testBit i = false := by
          cases hh : S.testBit i with
          | false => rfl
          | true => rw [hh, hsub i hh] at hi; exact absurd rfl hi
        have hGi : (grow g W S).testBit i = true := by
          cases hh : (grow g W S).testBit i with
          | true => rfl
          | false => rw [hh, hSi] at hi; exact absurd rfl hi
        have hp := pop_lt (Nat.lt_of_lt_of_le hglt hpow) hsub hGi hSi
        have hp2 := pop_le_n (Nat.le_refl 10) (Nat.lt_of_lt_of_le hglt hpow)
        refine ⟨_, _, _, rfl, .inl ⟨rfl, 10 - pop (grow g W S), by omega, x2.trans x3, grow g W S, rfl, hglt, by omega, hsub v hSv, fun u hu => ?_⟩⟩
        rcases (grow_bit hS').1 hu with h | ⟨a, ha, hab, hb⟩
        · exact hSr u h
        · exact .step (hSr a ha) hab hb)
    (10 - pop (2 ^ v)) 2000 (by omega) ⟨.refl _, 2 ^ v, rfl, Nat.pow_lt_pow_right (by omega) hv, by
      have := pop_le_n (Nat.le_refl 10) (show 2 ^ v < 2 ^ 10 from Nat.pow_lt_pow_right (by omega) (by omega))
      omega, by simp [Nat.testBit_two_pow], fun u hu => by
      rw [Nat.testBit_two_pow] at hu
      have : v = u := by simpa using hu
      subst this
      exact .base⟩
  refine p78 (k := 2000) (h1 := h') ?_ rfl xg
  unfold f78
  rw [nn_ge (by omega), shl1_nat (by omega)]
  refine (lp_eq hl).trans ?_
  rw [onR_ret]
  rfl

/-- The document's Reached. -/
theorem s33 {tv : Value} {g : List Nat} {W v : Nat} {h : H} (hg : GrB g) (hs : SlR h 3 1 tv (cellsN g)) (hv : v < g.length) (hW : W < 2 ^ g.length) : rn 33 #[tv, iv W, iv v] h = some (iv (rch g W v : Nat), h) := by
  have hlen := hg.len
  have hpow := hg.pow
  have hW' : W < 1024 := Nat.lt_of_lt_of_le hW hpow
  have hn : ∀ {T : Type} (K : Int → Option T), len tv K = K (g.length : Int) := fun K => by rw [hs.len]; simp
  have hinner : ∀ (m : Nat), m < 1024 → lpGo (f33_l2 rn 200 tv W g.length) 200 [iv m, iv 0] h = some (.exit 2, [iv (roundD g W m : Nat), iv g.length], h) := by
    intro m hm
    have hl := lp_same (σ := Nat) (ρ := Empty) (F := f33_l2 rn 200 tv W g.length) (k := 200) (l := List.range g.length) (h := h) (fun i s => [iv s, iv i])
      (fun _ i s => .inl (stepD g W s i)) (fun _ s => s < 1024) (fun _ => .ret) (fun _ => []) 2 (fun s => [iv s, iv g.length]) (ws := [iv m, iv 0]) (s0 := m) rfl hm (by simp; omega) (by simp)
      (fun _ _ => by rw [List.length_range]; simp [f33_l2])
      (by
        intro i x s hx hI
        obtain ⟨hi, rfl⟩ := range_get hx
        have hnw : nb g x &&& W < 1024 := Nat.and_lt_two_pow (n := 10) _ hW'
        have hst : stepD g W s x < 1024 := by
          unfold stepD
          split
          · exact Nat.or_lt_two_pow (n := 10) hI hnw
          · exact hI
        refine ⟨fun s' hs' => by cases hs'; exact hst, ?_⟩
        have e2 := fun (K : Value → Option (Ex × List Value × H)) => getN hs hi K
        have hand : AM.and .i64 (nb g x : Int) (W : Int) = ((nb g x &&& W : Nat) : Int) := and_nat (by have := hg.nb_lt x; omega) (by omega)
        have hor : AM.or .i64 (s : Int) ((nb g x &&& W : Nat) : Int) = ((s ||| (nb g x &&& W) : Nat) : Int) := or_nat (by omega) (by omega)
        have hadd : add .i64 (x : Int) 1 = (x : Int) + 1 := add64 (by omega) (by omega)
        have hbit : AM.and .i64 (shr .i64 (s : Int) (x : Int)) 1 = if s.testBit x then 1 else 0 := bit_nat (by omega) (by omega)
        unfold stepD
        by_cases hb : s.testBit x = true
        · simp [f33_l2, hi, nn_ge (show (0 : Int) ≤ (x : Int) by omega), hbit, hb, e2, hand, hor, hadd, rnd]
        · simp [f33_l2, hi, nn_ge (show (0 : Int) ≤ (x : Int) by omega), hbit, hb, hadd, rnd])
    rw [itL_inl (fun _ i s => stepD g W s i), foldI_foldl (fun i s => stepD g W s i)] at hl
    exact hl.1
  have hl := lp_same (σ := Nat) (ρ := Empty) (F := f33_l1 rn 200 tv W g.length) (k := 200) (l := List.range g.length) (h := h) (fun i s => [iv s, iv i])
    (fun _ _ s => .inl (roundD g W s)) (fun _ s => s < 1024) (fun _ => .ret) (fun _ => []) 0 (fun s => [iv s, iv g.length]) (ws := [iv (2 ^ v : Nat), iv 0]) (s0 := 2 ^ v) rfl (Nat.lt_of_lt_of_le (Nat.pow_lt_pow_right (by omega) hv) hpow) (by simp; omega) (by simp)
    (fun _ _ => by rw [List.length_range]; simp [f33_l1])
    (by
      intro i x s hx hI
      obtain ⟨hi, rfl⟩ := range_get hx
      refine ⟨fun s' hs' => by cases hs'; exact foldD_lt (n := 10) hW' _ _ hI, ?_⟩
      have hadd : add .i64 (x : Int) 1 = (x : Int) + 1 := add64 (by omega) (by omega)
      have hlq := fun (K : Ex → List Value → H → Option (Ex × List Value × H)) => lp_eq (K := K) (hinner s hI)
      simp [f33_l1, hi, hn, hlq, hadd, rnd])
  rw [itL_inl (fun _ _ s => roundD g W s), foldI_foldl (fun _ s => roundD g W s)] at hl
  have hfin := reachD hg hv hW
  rw [hfin] at hl
  refine p33 (k := 200) ?_ rfl (.refl _)
  unfold f33
  rw [nn_ge (by omega), hn, shl1_nat (by omega)]
  refine (lp_eq hl.1).trans ?_
  rfl

/-- All nodes. -/
def allN (g : List Nat) : Nat := 2 ^ g.length - 1

theorem allN_lt (g : List Nat) : allN g < 2 ^ g.length := by have := Nat.two_pow_pos g.length; unfold allN; omega

theorem allN_bit (g : List Nat) (i : Nat) : (allN g).testBit i = decide (i < g.length) := by unfold allN; rw [Nat.testBit_two_pow_sub_one]

theorem shl_all {n : Nat} (h : n ≤ 10) : sub .i64 (AM.shl .i64 1 (n : Int)) 1 = ((2 ^ n - 1 : Nat) : Int) := by
  have h1 : 2 ^ n ≤ 2 ^ 10 := Nat.pow_le_pow_right (by omega) h
  have h2 := Nat.two_pow_pos n
  rw [shl1_nat (by omega), sub64 (by omega) (by omega)]
  omega

theorem s65 {tv : Value} {g : List Nat} {h : H} (hg : GrB g) (hs : SlR h 3 1 tv (cellsN g)) : rn 65 #[tv] h = some (iv (allN g : Nat), h) := by
  have hn : ∀ {T : Type} (K : Int → Option T), len tv K = K (g.length : Int) := fun K => by rw [hs.len]; simp
  refine p65 (k := 0) ?_ rfl (.refl _)
  simp [f65, hn, nn_ge, shl_all hg.len, allN]

theorem s68 {tv : Value} {g : List Nat} {h : H} (hg : GrB g) (hs : SlR h 3 1 tv (cellsN g)) : rn 68 #[tv] h = some (iv (allN g : Nat), h) := by
  have hn : ∀ {T : Type} (K : Int → Option T), len tv K = K (g.length : Int) := fun K => by rw [hs.len]; simp
  refine p68 (k := 0) ?_ rfl (.refl _)
  simp [f68, hn, nn_ge, shl_all hg.len, allN]

/-- Is a set connected, if it is not empty? -/
noncomputable def connS (g : List Nat) (S : Nat) : Bool := decide (S = 0) || decide (rch g S (low S) = S)

theorem low_lt {g : List Nat} {S : Nat} (hg : GrB g) (hS : S < 2 ^ g.length) (h0 : S ≠ 0) : low S < g.length := bit_lt hS (low_bit (Nat.pos_of_ne_zero h0) (Nat.lt_of_lt_of_le hS hg.pow))

theorem s64 {tv : Value} {g : List Nat} {S : Nat} {h : H} (hg : GrB g) (hs : SlR h 3 1 tv (cellsN g)) (hS : S < 2 ^ g.length) : rn 64 #[tv, iv S] h = some (.bool (connS g S), h) := by
  have hS' : S < 1024 := Nat.lt_of_lt_of_le hS hg.pow
  refine p64 (k := 0) ?_ rfl (.refl _)
  unfold f64 connS
  by_cases h0 : S = 0
  · subst h0; simp
  · have c89 := fun (K : Value → H → Option (Value × H)) => calls_eq (K := K) (xs := [.int .u64 S]) (s89 (Nat.pos_of_ne_zero h0) hS' h)
    have c78 := fun (K : Value → H → Option (Value × H)) => calls_eq (K := K) (xs := [tv, iv (low S : Nat), iv S]) (s78 hg hs (low_lt hg hS h0) hS)
    rw [show AM.eq (S : Int) 0 = false by simp; omega, ifB_false, wr64u hS', c89, asI_int, c78, asI_int]
    have : AM.eq (rch g S (low S) : Int) (S : Int) = decide (rch g S (low S) = S) := by
      rw [Bool.eq_iff_iff]; simp; omega
    rw [this, decide_eq_false h0]
    rfl

theorem s67 {tv : Value} {g : List Nat} {S : Nat} {h : H} (hg : GrB g) (hs : SlR h 3 1 tv (cellsN g)) (hS : S < 2 ^ g.length) : rn 67 #[tv, iv S] h = some (.bool (decide (S ≠ 0) && connS g S), h) := by
  have hlen := hg.len
  have hpow := hg.pow
  have hS' : S < 1024 := Nat.lt_of_lt_of_le hS hpow
  have hn : ∀ {T : Type} (K : Int → Option T), len tv K = K (g.length : Int) := fun K => by rw [hs.len]; simp
  by_cases h0 : S = 0
  · subst h0
    exact p67 (k := 0) (by simp [f67]) rfl (.refl _)
  · have hpos : 0 < S := Nat.pos_of_ne_zero h0
    have hlb := low_bit hpos hS'
    have hll := low_lt hg hS h0
    obtain ⟨e, ws', h', hl, rfl, rfl, rfl⟩ := lpGo_inv (F := f67_l1 rn 200 S)
      (fun d ws g' => g' = h ∧ ∃ i : Nat, ws = [iv i] ∧ i + d = low S)
      (fun e ws g' => e = .exit 0 ∧ g' = h ∧ ws = [iv (low S : Nat)])
      (by
        rintro d ws g' ⟨rfl, i, rfl, hd⟩
        have hbit : AM.and .i64 (shr .i64 (S : Int) (i : Int)) 1 = if S.testBit i then 1 else 0 := bit_nat (by omega) (by omega)
        by_cases hb : S.testBit i = true
        · have := low_min hS' hb
          have hi : i = low S := by omega
          subst hi
          refine ⟨.exit 0, [iv (low S : Nat)], g', ?_, .inr ⟨by simp, rfl, rfl, rfl⟩⟩
          simp [f67_l1, nn_ge, hbit, hb]
        · have hne : i ≠ low S := fun e => hb (e ▸ hlb)
          have hadd : add .i64 (i : Int) 1 = ((i + 1 : Nat) : Int) := by rw [add64 (by omega) (by omega)]; omega
          refine ⟨.normal, [iv ((i + 1 : Nat) : Int)], g', ?_, .inl ⟨rfl, d - 1, by omega, rfl, i + 1, rfl, by omega⟩⟩
          simp [f67_l1, nn_ge, hbit, hb, hadd])
      (low S) 200 (by omega) ⟨rfl, 0, rfl, by omega⟩
    have c33 := fun (K : Value → H → Option (Value × H)) => calls_eq (K := K) (xs := [tv, iv S, iv (low S : Nat)]) (s33 hg hs hll hS)
    refine p67 (k := 200) ?_ rfl (.refl _)
    unfold f67
    rw [show AM.le (S : Int) 0 = false by simp; omega, ifB_false, hn, nn_ge (by omega), shl1_nat (by omega), show AM.le ((2 ^ g.length : Nat) : Int) (S : Int) = false by rw [AM.le, decide_eq_false_iff_not]; omega, ifB_false]
    refine (lp_eq hl).trans ?_
    rw [onE_exit, if_pos rfl, show AM.gv [iv (low S : Nat)] 0 = iv (low S : Nat) from rfl, c33, asI_int]
    have : AM.eq (rch g S (low S) : Int) (S : Int) = decide (rch g S (low S) = S) := by
      rw [Bool.eq_iff_iff]; simp; omega
    rw [this]
    unfold connS
    rw [decide_eq_true h0, decide_eq_false h0]
    rfl

end Go.AM

end

section

/- Pairs that part a graph. -/
namespace Go.AM
open Go.Proofs
variable {R : Type}
attribute [local simp] nx_eq nx_new nx_set blk_new blk_set asI_int asK_int asB_bool asP_ptr al_eq bx_eq len_slice onE_exit onE_ret onR_ret Value.cells d3 d22 d23 d32 cell_new cell_set rd_new rd_set off eq lt le ifB gv out ext20 ext21
/-- Pairs of numbers, as they stand in a row. -/
abbrev cellsP (l : List (Nat × Nat)) : List (List Value) := l.map fun (q : Nat × Nat) => [iv (q.1 : Int), iv (q.2 : Int)]

theorem app24 : okApp Tryd.prog 24 32 2 = true := by kernel_rfl

theorem kbld32 (a b : Int) (K : Value → Option R) : bld Tryd.prog 32 [(0, .int .i64 a), (1, .int .i64 b)] K = K (.agg #[.int .i64 a, .int .i64 b]) := bld_some (by kernel_rfl)

theorem bls24 (a b : Int) (h : H) : buildSlice Tryd.prog 24 1 [(0, .agg #[.int .i64 a, .int .i64 b])] h = some (.slice (some ⟨h.nx, 0, none⟩) 1 1, h.new (.row [iv a, iv b] 32 true)) := by kernel_rfl

theorem keqv32 (a b c d : Int) (K : Bool → Option R) : eqv Tryd.prog 32 (.agg #[.int .i64 a, .int .i64 b]) (.agg #[.int .i64 c, .int .i64 d]) K = K (a == c && b == d) := by
  have : binOp Tryd.prog .eql 32 (.agg #[iv a, iv b]) (.agg #[iv c, iv d]) = (if (a == c) = true then (if (b == d) = true then some true else some false) else some false).map Value.bool := by kernel_rfl
  unfold eqv
  rw [this]
  cases h1 : (a == c) <;> cases h2 : (b == d) <;> simp

theorem foldI_len {α β : Type} {f : Nat → α → List β → List β} (hf : ∀ i x s, (f i x s).length ≤ s.length + 1) : ∀ (l : List α) (i : Nat) (s : List β), (foldI f l i s).length ≤ s.length + l.length := by
  intro l
  induction l with
  | nil => intro i s; simp [foldI]
  | cons x l ih =>
    intro i s
    have := ih (i + 1) (f i x s)
    have := hf i x s
    simp only [foldI, List.length_cons]
    omega

theorem all_ne {g : List Nat} (hg : GrN g) : allN g ≠ 0 := by
  have h := hg.pos
  have : 2 ^ 1 ≤ 2 ^ g.length := Nat.pow_le_pow_right (by omega) h
  unfold allN
  omega

end Go.AM

end

section

/- Edges, cut nodes, and a town without an edge. -/
namespace Go.AM
open Go.Proofs
variable {R : Type}
attribute [local simp] nx_eq nx_new nx_set blk_new blk_set asI_int asK_int asB_bool asP_ptr al_eq bx_eq len_slice onE_exit onE_ret onR_ret Value.cells d3 d22 d23 d32 cell_new cell_set rd_new rd_set off eq lt le ifB gv out ext20 ext21
theorem SlR.blkR {h : H} {e : TypeId} {s : Nat} {v : Value} {L : List (List Value)} (a : SlR h e s v L) {b : Nat} (hb : blkOf v = some b) : b < h.nx ∧ ∃ cs own, h.blk b = some (.row cs e own) := by
  cases a with
  | nil => cases hb
  | at_ hb' hr => cases hb; exact ⟨hb', _, _, hr⟩

/-- The edges of a node to greater ones. -/
def edgeIn (g : List Nat) (a j : Nat) (acc : List (Nat × Nat)) : List (Nat × Nat) := if adj g a (a + 1 + j) = true then acc ++ [(a, a + 1 + j)] else acc

def edgeRow (g : List Nat) (a : Nat) (acc : List (Nat × Nat)) : List (Nat × Nat) := foldI (fun _ j acc => edgeIn g a j acc) (List.range (g.length - 1 - a)) 0 acc

/-- All edges, in order. -/
def edgesP (g : List Nat) : List (Nat × Nat) := foldI (fun _ a acc => edgeRow g a acc) (List.range g.length) 0 []

theorem edgeIn_len (g : List Nat) (a j : Nat) (acc : List (Nat × Nat)) : (edgeIn g a j acc).length ≤ acc.length + 1 := by
  unfold edgeIn
  split <;> simp

theorem edgeRow_len {g : List Nat} {a : Nat} {acc : List (Nat × Nat)} : (edgeRow g a acc).length ≤ acc.length + g.length := by
  have := foldI_len (f := fun (_ : Nat) (j : Nat) acc => edgeIn g a j acc) (fun i x s => edgeIn_len g a x s) (List.range (g.length - 1 - a)) 0 acc
  unfold edgeRow
  rw [List.length_range] at this
  omega

/-- A loop that appends is the same as a filter. -/
theorem foldI_filter {α β : Type} {p : α → Bool} {f : α → β} : ∀ (l : List α) (i : Nat) (s : List β), foldI (fun _ x acc => if p x = true then acc ++ [f x] else acc) l i s = s ++ (l.filter p).map f := by
  intro l
  induction l with
  | nil => intro i s; simp [foldI]
  | cons x l ih =>
    intro i s
    simp only [foldI]
    rw [ih]
    cases hp : p x <;> simp [List.filter_cons, hp]

theorem edgeRow_eq {g : List Nat} {a : Nat} {acc : List (Nat × Nat)} : edgeRow g a acc = acc ++ ((List.range (g.length - 1 - a)).filter fun j => adj g a (a + 1 + j)).map fun j => (a, a + 1 + j) := by
  unfold edgeRow edgeIn
  exact foldI_filter (p := fun j => adj g a (a + 1 + j)) (f := fun j => (a, a + 1 + j)) _ _ _

/-- The numbers of a set that are greater than a. -/
theorem elts_above {g : List Nat} (hg : GrB g) {a : Nat} (ha : a < g.length) : ((elts (nb g a)).filter fun b => decide (a < b)) = ((List.range (g.length - 1 - a)).filter fun j => adj g a (a + 1 + j)).map fun j => a + 1 + j := by
  have hlen := hg.len
  have h1 : elts (nb g a) = (List.range g.length).filter fun i => (nb g a).testBit i := by
    unfold elts
    rw [show 10 = g.length + (10 - g.length) by omega, List.range_add, List.filter_append]
    have : (((List.range (10 - g.length)).map (g.length + ·)).filter fun i => (nb g a).testBit i) = [] := by
      rw [List.filter_eq_nil_iff]
      intro x hx
      obtain ⟨y, _, rfl⟩ := List.mem_map.1 hx
      rw [big_bit (hg.nb_lt a) (by omega)]
      simp
    rw [this, List.append_nil]
  rw [h1, List.filter_filter]
  have h2 : List.range g.length = List.range (a + 1) ++ (List.range (g.length - 1 - a)).map (a + 1 + ·) := by
    rw [← List.range_add]
    congr 1
    omega
  rw [h2, List.filter_append]
  have h3 : ((List.range (a + 1)).filter fun b => decide (a < b) && (nb g a).testBit b) = [] := by
    rw [List.filter_eq_nil_iff]
    intro x hx
    have := List.mem_range.1 hx
    rw [decide_eq_false (by omega)]
    simp
  rw [h3, List.nil_append, List.filter_map]
  congr 1
  refine List.filter_congr fun j hj => ?_
  simp only [Function.comp_apply]
  rw [decide_eq_true (show a < a + 1 + j by omega)]
  rfl

theorem adj_bit {g : List Nat} (hg : GrB g) {a b : Nat} (hb : b ≤ 64) : AM.and .i64 (shr .i64 (nb g a : Int) (b : Int)) 1 = if adj g a b then 1 else 0 := by
  have h1 := hg.nb_lt a
  have h2 := hg.pow
  exact bit_nat (by omega) hb

/-- The document's edges. -/
theorem edge_loopD {tv sv : Value} {g : List Nat} {h0 h : H} {a : Nat} {acc : List (Nat × Nat)} (hg : GrB g) (ha : a < g.length) (x0 : Ext h0 h) (hs : SlR h0 3 1 tv (cellsN g)) (hap : AqR h0.nx h 32 2 sv (cellsP acc)) (hacc : acc.length ≤ 200) (ws0 : List Value) (hw : AM.gv ws0 1 = iv a) :
    ∃ sv' w' h', lpGo (f71_l2 rn 200 tv ws0) 200 [sv, iv ((a : Int) + 1)] h = some (.exit 2, [sv', w'], h') ∧ Ext h0 h' ∧ AqR h0.nx h' 32 2 sv' (cellsP (edgeRow g a acc)) := by
  have hlen := hg.len
  have hn : ∀ {T : Type} (K : Int → Option T), len tv K = K (g.length : Int) := fun K => by rw [hs.len]; simp
  have hwk : ∀ {T : Type} (K : Int → Option T), asK (AM.gv ws0 1) K = K a := fun K => by rw [hw]; rfl
  obtain ⟨ws', h', hl, xg, hll, sv', hap', rfl⟩ := lp_for (F := f71_l2 rn 200 tv ws0) (k := 200) (l := List.range (g.length - 1 - a)) (fun _ j acc => edgeIn g a j acc)
    (fun i acc' ws h' => Ext h0 h' ∧ acc'.length ≤ acc.length + i ∧ ∃ sv, AqR h0.nx h' 32 2 sv (cellsP acc') ∧ ws = [sv, iv ((a + 1 + i : Nat) : Int)]) 2 (ws := [sv, iv ((a : Int) + 1)]) (h := h) (s0 := acc)
    ⟨x0, by omega, sv, hap, by simp⟩ (by simp; omega)
    (by
      rintro acc' ws h' ⟨_, _, sv, _, rfl⟩
      rw [List.length_range, show a + 1 + (g.length - 1 - a) = g.length by omega]
      simp [f71_l2, hn])
    (by
      rintro i x acc' ws h1 hx ⟨x1, hal, sv, hap1, rfl⟩
      obtain ⟨hi, rfl⟩ := range_get hx
      have hb : a + 1 + x < g.length := by omega
      have e1 := fun (K : Value → Option (Ex × List Value × H)) => getN (hs.ext x1) ha K
      have hbit := adj_bit hg (a := a) (b := a + 1 + x) (by omega)
      have hadd : add .i64 ((a + 1 + x : Nat) : Int) 1 = ((a + 1 + (x + 1) : Nat) : Int) := by rw [add64 (by omega) (by omega)]; omega
      have hlt : AM.lt ((a + 1 + x : Nat) : Int) (g.length : Int) = true := by rw [AM.lt, decide_eq_true_iff]; omega
      have start : f71_l2 rn 200 tv ws0 [sv, iv ((a + 1 + x : Nat) : Int)] h1 = if adj g a (a + 1 + x) = true then
          (bld Tryd.prog 32 [(0, iv a), (1, iv ((a + 1 + x : Nat) : Int))] fun v8 => bls Tryd.prog h1 24 1 [(0, v8)] fun v9 h8 => app Tryd.prog h8 24 24 sv v9 fun v10 h9 => AM.out .normal [v10, iv ((a + 1 + (x + 1) : Nat) : Int)] h9) else
          some (.normal, [sv, iv ((a + 1 + (x + 1) : Nat) : Int)], h1) := by
        unfold f71_l2
        rw [show AM.gv [sv, iv ((a + 1 + x : Nat) : Int)] 1 = iv ((a + 1 + x : Nat) : Int) from rfl, show AM.gv [sv, iv ((a + 1 + x : Nat) : Int)] 0 = sv from rfl]
        simp only [hn, asI_int, hlt, ifB_true, hwk, d3, e1, asK_int, nn_ge (show (0 : Int) ≤ ((a + 1 + x : Nat) : Int) by omega), hbit, hadd, hw]
        cases h5 : adj g a (a + 1 + x) with
        | false => simp
        | true => simp
      rw [start]
      by_cases hp : adj g a (a + 1 + x) = true
      · rw [if_pos hp, kbld32]
        obtain ⟨sv', h2, e2, a2, n2, k2, b2, hb2, hb2'⟩ := hap1.push app24 app24 (bls24 (a : Int) ((a + 1 + x : Nat) : Int)) rfl rfl (by rw [List.length_map]; omega) x1.nx
        rw [e2]
        have hpi : edgeIn g a x acc' = acc' ++ [(a, a + 1 + x)] := by unfold edgeIn; rw [if_pos hp]
        refine ⟨_, _, rfl, ⟨by have := x1.nx; omega, fun b hb => ?_⟩, ?_, sv', ?_, rfl⟩
        · rw [k2 b (by have := x1.nx; omega) (fun e => by have := (hap1.blkOf e).1; omega)]
          exact x1.blk b hb
        · rw [hpi]; simp; omega
        · rw [hpi]
          have : cellsP (acc' ++ [(a, a + 1 + x)]) = cellsP acc' ++ [[iv (a : Int), iv ((a + 1 + x : Nat) : Int)]] := by simp
          rw [this]; exact a2
      · rw [if_neg hp]
        have hpi : edgeIn g a x acc' = acc' := by unfold edgeIn; rw [if_neg hp]
        exact ⟨_, _, rfl, x1, by rw [hpi]; omega, sv, by rw [hpi]; exact hap1, rfl⟩)
  exact ⟨sv', _, h', hl, xg, hap'⟩

theorem s71 {v : Value} {g : List Nat} {h : H} (hg : GrB g) (hs : SlR h 3 1 v (cellsN g)) :
    ∃ v' h', rn 71 #[v] h = some (v', h') ∧ Exw h h' ∧ SlR h' 32 2 v' (cellsP (edgesP g)) := by
  have hlen := hg.len
  have hn : ∀ {T : Type} (K : Int → Option T), len v K = K (g.length : Int) := fun K => by rw [hs.len]; simp
  obtain ⟨ws', h', hl, xg, hll, sv', hap', rfl⟩ := lp_for (F := f71_l1 rn 200 v g.length) (k := 200) (l := List.range g.length) (fun _ a acc => edgeRow g a acc)
    (fun i acc' ws h' => Ext h h' ∧ acc'.length ≤ 10 * i ∧ ∃ sv, AqR h.nx h' 32 2 sv (cellsP acc') ∧ ws = [sv, iv i]) 0 (ws := [.slice none 0 0, iv 0]) (h := h) (s0 := [])
    ⟨.refl _, by simp, _, .nil, rfl⟩ (by simp; omega)
    (by
      rintro acc' ws h' ⟨_, _, sv, _, rfl⟩
      rw [List.length_range]
      simp [f71_l1])
    (by
      rintro i x acc' ws h1 hx ⟨x1, hal, sv, hap1, rfl⟩
      obtain ⟨hi, rfl⟩ := range_get hx
      have hadd : add .i64 (x : Int) 1 = (x : Int) + 1 := add64 (by omega) (by omega)
      obtain ⟨sv', w', h2, hl2, x2, hap2⟩ := edge_loopD hg hi x1 hs hap1 (by omega) [sv, iv x] rfl
      have hrl := edgeRow_len (g := g) (a := x) (acc := acc')
      refine ⟨[sv', iv ((x : Int) + 1)], h2, ?_, x2, by omega, sv', hap2, rfl⟩
      have hlq := fun (K : Ex → List Value → H → Option (Ex × List Value × H)) => lp_eq (K := K) hl2
      simp [f71_l1, hi, hadd, hlq])
  obtain ⟨h2, e2, m2, w2⟩ := x71 (k := 200) (v0 := v) (h := h) (h1 := h') (v := sv') (by
    unfold f71
    rw [hn]
    refine (lp_eq hl).trans ?_
    rfl) (by obtain ⟨x, y, z, hz⟩ := hap'.isSl; rw [hz]; rfl)
  exact ⟨sv', h2, e2, w2 xg, hap'.slR.ext m2.ext⟩

/-- The program's edges. -/
theorem edge_loop {nv sv : Value} {g : List Nat} {h0 h : H} {a : Nat} {acc : List (Nat × Nat)} (hg : GrB g) (ha : a < g.length) (x0 : Ext h0 h) (hs : SlR h 3 1 nv (cellsN (elts (nb g a)))) (hap : AqR h0.nx h 32 2 sv (cellsP acc)) (hacc : acc.length ≤ 200) (ws0 : List Value) (hw : AM.gv ws0 1 = iv a) :
    ∃ sv' w' h', lpGo (f77_l2 rn 200 ws0 nv (elts (nb g a)).length) 200 [sv, iv 0] h = some (.exit 2, [sv', w'], h') ∧ Ext h0 h' ∧ AqR h0.nx h' 32 2 sv' (cellsP (edgeRow g a acc)) := by
  have hlen := hg.len
  have hnb : nb g a < 1024 := Nat.lt_of_lt_of_le (hg.nb_lt a) hg.pow
  have hpl : (elts (nb g a)).length ≤ 10 := by rw [elts_len]; exact pop_le_n (Nat.le_refl 10) hnb
  obtain ⟨ws', h', hl, xg, xh, hll, sv', hap', rfl⟩ := lp_for (F := f77_l2 rn 200 ws0 nv (elts (nb g a)).length) (k := 200) (l := elts (nb g a)) (fun _ b acc => if decide (a < b) = true then acc ++ [(a, b)] else acc)
    (fun i acc' ws h' => Ext h0 h' ∧ SlR h' 3 1 nv (cellsN (elts (nb g a))) ∧ acc'.length ≤ acc.length + i ∧ ∃ sv, AqR h0.nx h' 32 2 sv (cellsP acc') ∧ ws = [sv, iv i]) 2 (ws := [sv, iv 0]) (h := h) (s0 := acc)
    ⟨x0, hs, by omega, sv, hap, rfl⟩ (by omega)
    (by
      rintro acc' ws h' ⟨_, _, _, sv, _, rfl⟩
      simp [f77_l2])
    (by
      rintro i b acc' ws h1 hx ⟨x1, hs1, hal, sv, hap1, rfl⟩
      have hi := (List.getElem?_eq_some_iff.1 hx).1
      have hadd : add .i64 (i : Int) 1 = (i : Int) + 1 := add64 (by omega) (by omega)
      have e1 : ∀ (K : Value → Option (Ex × List Value × H)), (six nv (i : Int) 1 fun b o => (h1.cell b o).bind K) = K (iv b) := fun K => hs1.c0 (by omega) (x := [iv b]) (by simp [hx]) rfl K
      have start : f77_l2 rn 200 ws0 nv (elts (nb g a)).length [sv, iv i] h1 = if a < b then
          (bld Tryd.prog 32 [(0, iv a), (1, iv b)] fun v8 => bls Tryd.prog h1 24 1 [(0, v8)] fun v9 h8 => app Tryd.prog h8 24 24 sv v9 fun v10 h9 => AM.out .normal [v10, iv ((i : Int) + 1)] h9) else
          some (.normal, [sv, iv ((i : Int) + 1)], h1) := by
        unfold f77_l2
        rw [show AM.gv [sv, iv i] 1 = iv i from rfl, show AM.gv [sv, iv i] 0 = sv from rfl]
        simp only [asI_int, lt_t (show (i : Int) < (elts (nb g a)).length by omega), ifB_true, asK_int, d3, e1, hw, hadd]
        by_cases h5 : a < b
        · simp [h5]
        · simp [h5]
      rw [start]
      by_cases hp : a < b
      · rw [if_pos hp, kbld32]
        obtain ⟨sv', h2, e2, a2, n2, k2, b2, hb2, hb2'⟩ := hap1.push app24 app24 (bls24 (a : Int) (b : Int)) rfl rfl (by rw [List.length_map]; omega) x1.nx
        rw [e2]
        have hpi : (if decide (a < b) = true then acc' ++ [(a, b)] else acc') = acc' ++ [(a, b)] := by simp [hp]
        have k2' : ∀ q, q < h1.nx → blkOf sv ≠ some q → h2.blk q = h1.blk q := k2
        refine ⟨_, _, rfl, ⟨by have := x1.nx; omega, fun q hq => ?_⟩, ?_, ?_, sv', ?_, rfl⟩
        · rw [k2 q (by have := x1.nx; omega) (fun e => by have := (hap1.blkOf e).1; omega)]
          exact x1.blk q hq
        · refine hs1.keepB n2 fun q hq => k2 q ?_ fun e => ?_
          · exact (hs1.blkR hq).1
          · have h7 := (hap1.blkOf e).2.2
            obtain ⟨_, cs, own, hr⟩ := hs1.blkR hq
            rw [hr] at h7
            simp at h7
        · rw [hpi]; simp; omega
        · rw [hpi]
          have : cellsP (acc' ++ [(a, b)]) = cellsP acc' ++ [[iv (a : Int), iv (b : Int)]] := by simp
          rw [this]; exact a2
      · rw [if_neg hp]
        have hpi : (if decide (a < b) = true then acc' ++ [(a, b)] else acc') = acc' := by simp [hp]
        exact ⟨_, _, rfl, x1, hs1, by rw [hpi]; omega, sv, by rw [hpi]; exact hap1, rfl⟩)
  have he : foldI (fun _ b acc => if decide (a < b) = true then acc ++ [(a, b)] else acc) (elts (nb g a)) 0 acc = edgeRow g a acc := by
    rw [foldI_filter (p := fun b => decide (a < b)) (f := fun b => (a, b)), edgeRow_eq, elts_above hg ha, List.map_map]
    rfl
  rw [he] at hap'
  exact ⟨sv', _, h', hl, xg, hap'⟩

theorem s77 {v : Value} {g : List Nat} {h : H} (hg : GrB g) (hs : SlR h 3 1 v (cellsN g)) :
    ∃ v' h', rn 77 #[v] h = some (v', h') ∧ Exw h h' ∧ AqR h.nx h' 32 2 v' (cellsP (edgesP g)) := by
  have hlen := hg.len
  have hn : ∀ {T : Type} (K : Int → Option T), len v K = K (g.length : Int) := fun K => by rw [hs.len]; simp
  obtain ⟨ws', h', hl, xg, hll, sv', hap', rfl⟩ := lp_for (F := f77_l1 rn 200 v g.length) (k := 200) (l := List.range g.length) (fun _ a acc => edgeRow g a acc)
    (fun i acc' ws h' => Ext h h' ∧ acc'.length ≤ 10 * i ∧ ∃ sv, AqR h.nx h' 32 2 sv (cellsP acc') ∧ ws = [sv, iv i]) 0 (ws := [.slice none 0 0, iv 0]) (h := h) (s0 := [])
    ⟨.refl _, by simp, _, .nil, rfl⟩ (by simp; omega)
    (by
      rintro acc' ws h' ⟨_, _, sv, _, rfl⟩
      rw [List.length_range]
      simp [f77_l1])
    (by
      rintro i x acc' ws h1 hx ⟨x1, hal, sv, hap1, rfl⟩
      obtain ⟨hi, rfl⟩ := range_get hx
      have hadd : add .i64 (x : Int) 1 = (x : Int) + 1 := add64 (by omega) (by omega)
      have e1 := fun (K : Value → Option (Ex × List Value × H)) => getN (hs.ext x1) hi K
      have hnb : nb g x < 1024 := Nat.lt_of_lt_of_le (hg.nb_lt x) hg.pow
      obtain ⟨nv, h2, e76, x2w, hn2⟩ := s76 hnb h1
      have x2 := x2w.toExt
      have c76 := fun (K : Value → H → Option (Ex × List Value × H)) => calls_eq (K := K) (xs := [iv (nb g x : Nat)]) e76
      have hnn : ∀ {T : Type} (K : Int → Option T), len nv K = K ((elts (nb g x)).length : Int) := fun K => by rw [hn2.len]; simp
      obtain ⟨sv', w', h3, hl2, x3, hap2⟩ := edge_loop hg hi (x1.trans x2) hn2 (hap1.ext x2) (by omega) [sv, iv x] rfl
      have hrl := edgeRow_len (g := g) (a := x) (acc := acc')
      refine ⟨[sv', iv ((x : Int) + 1)], h3, ?_, x3, by omega, sv', hap2, rfl⟩
      have hlq := fun (K : Ex → List Value → H → Option (Ex × List Value × H)) => lp_eq (K := K) hl2
      simp [f77_l1, hi, hadd, e1, c76, hnn, hlq])
  obtain ⟨h2, e2, m2, w2⟩ := x77 (k := 200) (v0 := v) (h := h) (h1 := h') (v := sv') (by
    unfold f77
    rw [hn]
    refine (lp_eq hl).trans ?_
    rfl) (by obtain ⟨x, y, z, hz⟩ := hap'.isSl; rw [hz]; rfl)
  exact ⟨sv', h2, e2, w2 xg, hap'.ext m2.ext⟩

end Go.AM

end

section

/- Cut nodes; a town without an edge. -/
namespace Go.AM
open Go.Proofs
variable {R : Type}
attribute [local simp] nx_eq nx_new nx_set blk_new blk_set asI_int asK_int asB_bool asP_ptr al_eq bx_eq len_slice onE_exit onE_ret onR_ret Value.cells d3 d22 d23 d32 d78 w3 cell_new cell_set rd_new rd_set off eq lt le ifB gv out ext20 ext21
/-! ### Cut nodes -/
/-- Is a node a cut node of a set that has it? -/
noncomputable def cutQ (g : List Nat) (S v : Nat) : Bool := !connS g (without (rch g S v) (2 ^ v))

noncomputable def cutsP (g : List Nat) (S : Nat) : Nat := mkS (fun v => S.testBit v && cutQ g S v) 10

theorem cutsP_lt (g : List Nat) (S : Nat) : cutsP g S < 1024 := mkS_lt _ 10

theorem cutsP_bit {g : List Nat} {S v : Nat} (hS : S < 1024) : (cutsP g S).testBit v = true ↔ S.testBit v = true ∧ cutQ g S v = true := by
  unfold cutsP
  rw [mkS_bit, Bool.and_eq_true, Bool.and_eq_true, decide_eq_true_iff]
  exact ⟨And.right, fun h => ⟨bit_lt (n := 10) hS h.1, h⟩⟩

/-- Numbers put into a set one by one. -/
theorem orIf_bit {p : Nat → Bool} {u : Nat} : ∀ (L : List Nat) (i s : Nat), (foldI (fun _ v s => if p v = true then s ||| 2 ^ v else s) L i s).testBit u = true ↔ s.testBit u = true ∨ (u ∈ L ∧ p u = true) := by
  intro L
  induction L with
  | nil => intro i s; simp [foldI]
  | cons v L ih =>
    intro i s
    simp only [foldI]
    rw [ih]
    have h1 : (if p v = true then s ||| 2 ^ v else s).testBit u = true ↔ s.testBit u = true ∨ (u = v ∧ p u = true) := by
      split
      · rename_i hp
        rw [Nat.testBit_or, Nat.testBit_two_pow, Bool.or_eq_true, decide_eq_true_iff]
        constructor
        · rintro (h | h)
          · exact .inl h
          · exact .inr ⟨h.symm, h ▸ hp⟩
        · rintro (h | ⟨h, _⟩)
          · exact .inl h
          · exact .inr h.symm
      · rename_i hp
        constructor
        · exact .inl
        · rintro (h | ⟨rfl, h⟩)
          · exact h
          · exact absurd h hp
    rw [h1, List.mem_cons]
    constructor
    · rintro ((h | ⟨h, h'⟩) | ⟨h, h'⟩)
      · exact .inl h
      · exact .inr ⟨.inl h, h'⟩
      · exact .inr ⟨.inr h, h'⟩
    · rintro (h | ⟨h | h, h'⟩)
      · exact .inl (.inl h)
      · exact .inl (.inr ⟨h, h'⟩)
      · exact .inr ⟨h, h'⟩

theorem orIf_lt {p : Nat → Bool} {n : Nat} : ∀ (L : List Nat) (i s : Nat), s < 2 ^ n → (∀ v ∈ L, v < n) → foldI (fun _ v s => if p v = true then s ||| 2 ^ v else s) L i s < 2 ^ n := by
  intro L
  induction L with
  | nil => intro i s h _; exact h
  | cons v L ih =>
    intro i s h hv
    simp only [foldI]
    refine ih _ _ ?_ fun w hw => hv w (List.mem_cons_of_mem _ hw)
    split
    · exact Nat.or_lt_two_pow h (Nat.pow_lt_pow_right (by omega) (hv v List.mem_cons_self))
    · exact h

theorem rch_ltn {g : List Nat} {W v : Nat} (hg : GrB g) (hv : v < g.length) (hW : W < 2 ^ g.length) : rch g W v < 2 ^ g.length := by
  have hlen := hg.len
  have hW' : W < 1024 := Nat.lt_of_lt_of_le hW hg.pow
  refine Nat.lt_pow_two_of_testBit _ fun i hi => ?_
  rw [Bool.eq_false_iff]
  intro h
  have hr := (rch_bit (by omega) hW').1 h
  cases hr with
  | base => omega
  | step _ _ hb => have := bit_lt hW hb; omega

theorem cut_calc {g : List Nat} {S v : Nat} (hg : GrB g) (hv : v < g.length) (hS : S < 2 ^ g.length) : AM.andNot .i64 (rch g S v : Int) (AM.shl .i64 1 (v : Int)) = ((without (rch g S v) (2 ^ v) : Nat) : Int) := by
  have h1 := rch_lt g S v
  have hlen := hg.len
  have hv' : 2 ^ v < 2 ^ 10 := Nat.pow_lt_pow_right (by omega) (by omega)
  rw [shl1_nat (by omega), andNot_nat (by omega) (by omega)]

theorem s70 {tv : Value} {g : List Nat} {S : Nat} {h : H} (hg : GrB g) (hs : SlR h 3 1 tv (cellsN g)) (hS : S < 2 ^ g.length) : rn 70 #[tv, iv S] h = some (iv (cutsP g S : Nat), h) := by
  have hlen := hg.len
  have hS' : S < 1024 := Nat.lt_of_lt_of_le hS hg.pow
  obtain ⟨nv, h1, e76, x1w, hn⟩ := s76 hS' h
  have x1 := x1w.toExt
  have c76 := fun (K : Value → H → Option (Value × H)) => calls_eq (K := K) (xs := [iv S]) e76
  have hnn : ∀ {T : Type} (K : Int → Option T), len nv K = K ((elts S).length : Int) := fun K => by rw [hn.len]; simp
  have hpl : (elts S).length ≤ 10 := by rw [elts_len]; exact pop_le_n (Nat.le_refl 10) hS'
  have hl := lp_same (σ := Nat) (ρ := Empty) (F := f70_l1 rn 200 tv S nv (elts S).length) (k := 200) (l := elts S) (h := h1) (fun i s => [iv s, iv i])
    (fun _ v s => .inl (if cutQ g S v = true then s ||| 2 ^ v else s)) (fun _ s => s < 1024) (fun _ => .ret) (fun _ => []) 0 (fun s => [iv s, iv (elts S).length]) (ws := [iv 0, iv 0]) (s0 := 0) rfl (by decide) (by omega) (by simp)
    (fun _ _ => by simp [f70_l1])
    (by
      intro i v s hx hI
      have hi := (List.getElem?_eq_some_iff.1 hx).1
      have hv : v < g.length := bit_lt hS ((mem_elts hS').1 (List.mem_of_getElem? hx))
      have hv' : 2 ^ v < 2 ^ 10 := Nat.pow_lt_pow_right (by omega) (by omega)
      refine ⟨fun s' hs' => by cases hs'; split; exact Nat.or_lt_two_pow (n := 10) hI hv'; exact hI, ?_⟩
      have e1 : ∀ (K : Value → Option (Ex × List Value × H)), (six nv (i : Int) 1 fun b o => (h1.cell b o).bind K) = K (iv v) := fun K => hn.c0 (by omega) (x := [iv v]) (by simp [hx]) rfl K
      have c78 := fun (K : Value → H → Option (Ex × List Value × H)) => calls_eq (K := K) (xs := [tv, iv v, iv S]) (s78 hg (hs.ext x1) hv hS)
      have c64 := fun (K : Value → H → Option (Ex × List Value × H)) => calls_eq (K := K) (xs := [tv, iv (without (rch g S v) (2 ^ v) : Nat)]) (s64 hg (hs.ext x1) (without_le _ _ (rch_ltn hg hv hS)))
      have hadd : add .i64 (i : Int) 1 = (i : Int) + 1 := add64 (by omega) (by omega)
      have hor : AM.or .i64 (s : Int) (AM.shl .i64 1 (v : Int)) = ((s ||| 2 ^ v : Nat) : Int) := by rw [shl1_nat (by omega), or_nat (by omega) (by omega)]
      have hcalc := cut_calc hg hv hS
      unfold cutQ
      cases hq : connS g (without (rch g S v) (2 ^ v)) with
      | true => simp [f70_l1, hi, e1, c78, nn_ge (show (0 : Int) ≤ (v : Int) by omega), hcalc, c64, hq, hadd, rnd]
      | false => simp [f70_l1, hi, e1, c78, nn_ge (show (0 : Int) ≤ (v : Int) by omega), hcalc, c64, hq, hadd, hor, rnd])
  rw [itL_inl (fun _ v s => if cutQ g S v = true then s ||| 2 ^ v else s)] at hl
  have he : foldI (fun _ v s => if cutQ g S v = true then s ||| 2 ^ v else s) (elts S) 0 0 = cutsP g S := by
    refine set_ext (n := 10) (orIf_lt (n := 10) _ _ _ (by decide) fun v hv => by have := bit_lt hS ((mem_elts hS').1 hv); omega) (cutsP_lt g S) fun i _ => ?_
    rw [Bool.eq_iff_iff, orIf_bit, cutsP_bit hS', mem_elts hS']
    simp
  rw [he] at hl
  refine p70 (k := 200) (h1 := h1) ?_ rfl x1
  unfold f70
  rw [c76, hnn]
  refine (lp_eq hl.1).trans ?_
  rfl

theorem s74 {tv : Value} {g : List Nat} {S : Nat} {h : H} (hg : GrB g) (hs : SlR h 3 1 tv (cellsN g)) (hS : S < 2 ^ g.length) : rn 74 #[tv, iv S] h = some (iv (cutsP g S : Nat), h) := by
  have hlen := hg.len
  have hS' : S < 1024 := Nat.lt_of_lt_of_le hS hg.pow
  have hn : ∀ {T : Type} (K : Int → Option T), len tv K = K (g.length : Int) := fun K => by rw [hs.len]; simp
  have hl := lp_same (σ := Nat) (ρ := Empty) (F := f74_l1 rn 200 tv S g.length) (k := 200) (l := List.range g.length) (h := h) (fun i s => [iv s, iv i])
    (fun _ v s => .inl (if (S.testBit v && cutQ g S v) = true then s ||| 2 ^ v else s)) (fun _ s => s < 1024) (fun _ => .ret) (fun _ => []) 0 (fun s => [iv s, iv g.length]) (ws := [iv 0, iv 0]) (s0 := 0) rfl (by decide) (by simp; omega) (by simp)
    (fun _ _ => by rw [List.length_range]; simp [f74_l1])
    (by
      intro i v s hx hI
      obtain ⟨hv, rfl⟩ := range_get hx
      have hv' : 2 ^ v < 2 ^ 10 := Nat.pow_lt_pow_right (by omega) (by omega)
      refine ⟨fun s' hs' => by cases hs'; split; exact Nat.or_lt_two_pow (n := 10) hI hv'; exact hI, ?_⟩
      have c33 := fun (K : Value → H → Option (Ex × List Value × H)) => calls_eq (K := K) (xs := [tv, iv S, iv v]) (s33 hg hs hv hS)
      have c67 := fun (K : Value → H → Option (Ex × List Value × H)) => calls_eq (K := K) (xs := [tv, iv (without (rch g S v) (2 ^ v) : Nat)]) (s67 hg hs (without_le _ _ (rch_ltn hg hv hS)))
      have hadd : add .i64 (v : Int) 1 = (v : Int) + 1 := add64 (by omega) (by omega)
      have hor : AM.or .i64 (s : Int) (AM.shl .i64 1 (v : Int)) = ((s ||| 2 ^ v : Nat) : Int) := by rw [shl1_nat (by omega), or_nat (by omega) (by omega)]
      have hcalc := cut_calc hg hv hS
      have hbit : AM.and .i64 (shr .i64 (S : Int) (v : Int)) 1 = if S.testBit v then 1 else 0 := bit_nat (by omega) (by omega)
      unfold cutQ
      cases hb : S.testBit v with
      | false => simp [f74_l1, hv, c33, nn_ge (show (0 : Int) ≤ (v : Int) by omega), hbit, hb, hadd, rnd]
      | true =>
        by_cases h0 : without (rch g S v) (2 ^ v) = 0
        · have hc : connS g 0 = true := by simp [connS]
          rw [h0] at hcalc
          simp [f74_l1, hv, c33, nn_ge (show (0 : Int) ≤ (v : Int) by omega), hbit, hb, hcalc, h0, hc, hadd, rnd]
        · rw [decide_eq_true (show without (rch g S v) (2 ^ v) ≠ 0 from h0), Bool.true_and] at c67
          have hne : ¬ ((without (rch g S v) (2 ^ v) : Nat) : Int) = 0 := by omega
          cases hq : connS g (without (rch g S v) (2 ^ v)) with
          | true => simp [f74_l1, hv, c33, nn_ge (show (0 : Int) ≤ (v : Int) by omega), hbit, hb, hcalc, hne, h0, c67, hq, hadd, rnd]
          | false => simp [f74_l1, hv, c33, nn_ge (show (0 : Int) ≤ (v : Int) by omega), hbit, hb, hcalc, hne, h0, c67, hq, hadd, hor, rnd])
  rw [itL_inl (fun _ v s => if (S.testBit v && cutQ g S v) = true then s ||| 2 ^ v else s)] at hl
  have he : foldI (fun _ v s => if (S.testBit v && cutQ g S v) = true then s ||| 2 ^ v else s) (List.range g.length) 0 0 = cutsP g S := by
    refine set_ext (n := 10) (orIf_lt (n := 10) _ _ _ (by decide) fun v hv => by have := List.mem_range.1 hv; omega) (cutsP_lt g S) fun i _ => ?_
    rw [Bool.eq_iff_iff, orIf_bit, cutsP_bit hS', List.mem_range, Bool.and_eq_true]
    constructor
    · rintro (h | ⟨_, h⟩)
      · simp at h
      · exact h
    · intro h
      exact .inr ⟨bit_lt hS h.1, h⟩
  rw [he] at hl
  refine p74 (k := 200) (h1 := h) ?_ rfl (.refl _)
  unfold f74
  rw [hn]
  refine (lp_eq hl.1).trans ?_
  rfl

end Go.AM

end

section

/- A town without an edge: the program's, and the document's. -/
namespace Go.AM
open Go.Proofs
variable {R : Type}
attribute [local simp] nx_eq nx_new nx_set blk_new blk_set asI_int asK_int asB_bool asP_ptr al_eq bx_eq len_slice onE_exit onE_ret onR_ret Value.cells d3 d22 d23 d32 d78 w3 cell_new cell_set rd_new rd_set off eq lt le ifB gv out ext20 ext21
/-- An empty literal that is appended to: no row is written. -/
theorem app_lit_wr {P : Program} {h : H} {e t t' : TypeId} {s b : Nat} {y : Value} {ys : List (List Value)} (ht : okApp P t e s = true) (ht' : okApp P t' e s = true) (hy : SlR h e s y ys) (hm : ys.length < 2 ^ 30) :
    AM.app P h t t' (.slice (some ⟨b, 0, none⟩) 0 0) y (fun _ g => some g.wr) = some h.wr := by
  obtain ⟨i, z, h1, h2, h3, h4, h5, h6, h7⟩ := okApp_spec ht
  obtain ⟨_, _, h1', _⟩ := okApp_spec ht'
  have hsrc := hy.srcAll h6
  have hlen := hy.lenOf
  have h30 : (2:Nat) ^ 30 < U := by decide
  have hc0 : capK 0 = 0 := rfl
  unfold AM.app append
  simp only [h1, h1', h2, h3, hlen, h4, hsrc, Option.bind_some, hc0]
  rw [if_pos ⟨h5, h6, h7⟩]
  by_cases h0 : ys.length = 0
  · rw [if_pos h0]; rfl
  · rw [if_neg h0, if_neg (by omega), if_pos (by omega), if_pos (by omega)]
    rfl

theorem cellsN_scal (g : List Nat) : (cellsN g).flatten.all scal = true := by
  rw [List.all_eq_true]
  intro x hx
  obtain ⟨y, hy, hxy⟩ := List.mem_flatten.1 hx
  obtain ⟨n, _, rfl⟩ := List.mem_map.1 hy
  simp at hxy
  subst hxy
  rfl

/-- A copy by a literal and an append: it owns its row. -/
theorem copy_ia {P : Program} {h : H} {t : TypeId} {y : Value} {g : List Nat} (ht : okApp P t 3 1 = true) (hb : ∀ h : H, buildSlice P t 0 [] h = some (.slice (some ⟨h.nx, 0, none⟩) 0 0, h.new (.row [] 3 true))) (hy : SlR h 3 1 y (cellsN g)) (hg : g ≠ []) (hm : g.length < 1000) :
    ∃ v' h' b, (∀ {T : Type} (K : Value → H → Option T), (bls P h t 0 [] fun v1 h1 => AM.app P h1 t t v1 y K) = K v' h') ∧ Ext h h' ∧ h.nx ≤ b ∧ IA h' b v' (g.map Int.ofNat) ∧ h'.wr = h.wr := by
  have x1 := Ext.new h (.row [] 3 true)
  have hlit : AqR h.nx (h.new (.row [] 3 true)) 3 1 (.slice (some ⟨h.nx, 0, none⟩) 0 0) [] := AqR.lit (l := []) (Nat.le_refl _) rfl (by simp) (by simp)
  obtain ⟨v', h', e, a, n, k, _⟩ := hlit.app ht ht (hy.ext x1) (cellsN_scal g) (by simp; omega) (by rw [nx_new]; omega)
  have hw := app_lit_wr (P := P) (b := h.nx) ht ht (hy.ext x1) (by simp; omega)
  rw [e] at hw
  rw [List.nil_append, ← cellsN_eq] at a
  obtain ⟨b, hb1, _, hia⟩ := a.ia (by simpa using hg)
  refine ⟨v', h', b, fun K => ?_, ⟨by rw [nx_new] at n; omega, fun q hq => ?_⟩, hb1, hia, by simpa [H.new] using hw⟩
  · rw [bls_some (hb h)]; exact e K
  · rw [k q (by rw [nx_new]; omega) (fun e => by cases e; omega)]
    exact x1.blk q hq

/-- A graph without an edge. -/
def delE (g : List Nat) (a b : Nat) : List Nat := (g.set a (without (nb g a) (2 ^ b))).set b (without (nb g b) (2 ^ a))

theorem delE_len (g : List Nat) (a b : Nat) : (delE g a b).length = g.length := by simp [delE]

theorem nb_set {g : List Nat} {a x i : Nat} (ha : a < g.length) : nb (g.set a x) i = if i = a then x else nb g i := by
  unfold nb
  rw [List.getD_eq_getElem?_getD, List.getD_eq_getElem?_getD, List.getElem?_set]
  by_cases h : a = i
  · subst h; simp [ha]
  · rw [if_neg h, if_neg (fun e => h e.symm)]

theorem adj_delE {g : List Nat} {a b u v : Nat} (ha : a < g.length) (hb : b < g.length) (hab : a ≠ b) : adj (delE g a b) u v = (adj g u v && !(decide (u = a ∧ v = b) || decide (u = b ∧ v = a))) := by
  unfold adj delE
  rw [nb_set (by simpa using hb), nb_set ha]
  by_cases h1 : u = b
  · subst h1
    rw [if_pos rfl, testBit_without, Nat.testBit_two_pow]
    have : ¬ u = a := fun e => hab e.symm
    simp [this, eq_comm]
  · rw [if_neg h1]
    by_cases h2 : u = a
    · subst h2
      rw [if_pos rfl, testBit_without, Nat.testBit_two_pow]
      simp [h1, eq_comm]
    · rw [if_neg h2]
      simp [h1, h2]

theorem GrB.delE {g : List Nat} (hg : GrB g) (a b : Nat) : GrB (delE g a b) := by
  refine ⟨by rw [delE_len]; exact hg.len, fun x hx => ?_⟩
  rw [delE_len]
  unfold AM.delE at hx
  rcases List.mem_or_eq_of_mem_set hx with h | rfl
  · rcases List.mem_or_eq_of_mem_set h with h | rfl
    · exact hg.lt x h
    · exact without_le _ _ (hg.nb_lt a)
  · exact without_le _ _ (hg.nb_lt b)

theorem del1_calc {g : List Nat} (hg : GrB g) {a b : Nat} (hb : b < g.length) : AM.andNot .i64 (nb g a : Int) (AM.shl .i64 1 (b : Int)) = ((without (nb g a) (2 ^ b) : Nat) : Int) := by
  have h1 := hg.nb_lt a
  have h2 := hg.pow
  have hlen := hg.len
  have hv' : 2 ^ b < 2 ^ 10 := Nat.pow_lt_pow_right (by omega) (by omega)
  rw [shl1_nat (by omega), andNot_nat (by omega) (by omega)]

end Go.AM

end

section

/- Bridges: the program's and the document's. -/
namespace Go.AM
open Go.Proofs
variable {R : Type}
attribute [local simp] nx_eq nx_new nx_set blk_new blk_set asI_int asK_int asB_bool asP_ptr al_eq bx_eq len_slice onE_exit onE_ret onR_ret Value.cells d3 d22 d23 d32 d78 w3 w32 cell_new cell_set rd_new rd_set off eq lt le ifB gv out ext20 ext21
/-! ### Two numbers of a row that is owned are turned -/
theorem nb_get {g : List Nat} {i : Nat} (hi : i < g.length) : (g.map Int.ofNat)[i]? = some ((nb g i : Nat) : Int) := by
  unfold nb
  rw [List.getElem?_map, List.getD_eq_getElem?_getD, List.getElem?_eq_getElem hi]
  rfl

theorem set_nat {g : List Nat} {i x : Nat} : (g.map Int.ofNat).set i (x : Int) = (g.set i x).map Int.ofNat := by
  rw [List.map_set]; rfl

/-- The two stores that take an edge away. -/
theorem del_stores {h : H} {bb : Nat} {sv : Value} {g : List Nat} {a b : Nat} (hg : GrB g) (ha : a < g.length) (hb : b < g.length) (hab : a ≠ b) (hia : IA h bb sv (g.map Int.ofNat)) :
    ∃ h', (∀ {T : Type} (K : H → Option T), (six sv (a : Int) 1 fun b0 b1 => (h.cell b0 b1).bind fun v3 => asI .i64 v3 fun n2 => nn (b : Int) (six sv (a : Int) 1 fun b2 b3 =>
        (wrc 1 h b2 b3 (.int .i64 (andNot .i64 n2 (shl .i64 1 b)))).bind fun h3 => six sv (b : Int) 1 fun b4 b5 => (h3.cell b4 b5).bind fun v4 => asI .i64 v4 fun n3 => nn (a : Int) (six sv (b : Int) 1 fun b6 b7 =>
          (wrc 1 h3 b6 b7 (.int .i64 (andNot .i64 n3 (shl .i64 1 a)))).bind K))) = K h') ∧
      IA h' bb sv ((delE g a b).map Int.ofNat) ∧ h'.nx = h.nx ∧ ∀ q, q ≠ bb → h'.blk q = h.blk q := by
  have h1 := hia.set a ((without (nb g a) (2 ^ b) : Nat) : Int)
  rw [set_nat] at h1
  have hnb : nb (g.set a (without (nb g a) (2 ^ b))) b = nb g b := by rw [nb_set ha, if_neg (fun e => hab e.symm)]
  have h2 := h1.set b ((without (nb g b) (2 ^ a) : Nat) : Int)
  rw [set_nat] at h2
  refine ⟨_, fun K => ?_, h2, rfl, fun q hq => ?_⟩
  · rw [hia.get (by omega) (x := (nb g a : Nat)) (by rw [Int.toNat_natCast]; exact nb_get ha), asI_int, nn_ge (by omega), hia.put (by omega) (by simpa using ha), del1_calc hg hb]
    simp only [Int.toNat_natCast]
    rw [hia.wrc (i := a) (by simpa using ha), set_nat, Option.bind_some,
      h1.get (by omega) (x := (nb g b : Nat)) (by rw [Int.toNat_natCast, nb_get (by simpa using hb), hnb]), asI_int, nn_ge (by omega), h1.put (by omega) (by simpa using hb), del1_calc hg ha]
    simp only [Int.toNat_natCast]
    rw [h1.wrc (i := b) (by simpa using hb), set_nat, Option.bind_some]
  · rw [blk_set_ne _ _ _ hq, blk_set_ne _ _ _ hq]

theorem IA.slN {h : H} {bb : Nat} {sv : Value} {g : List Nat} (hia : IA h bb sv (g.map Int.ofNat)) : SlR h 3 1 sv (cellsN g) := by
  have := hia.slR
  rwa [show ((g.map Int.ofNat).map fun z => [iv z]) = cellsN g from cellsN_eq g] at this

theorem s85 {P : Prop} {tv : Value} {g : List Nat} {h : H} (hg : GrB g) (h0 : g ≠ []) (hs : SlR h 3 1 tv (cellsN g)) (k : ∀ v' h' bb, rn 85 #[tv] h = some (v', h') → Exw h h' → h.nx ≤ bb → IA h' bb v' (g.map Int.ofNat) → P) : P := by
  have hlen := hg.len
  obtain ⟨v1, h1, bb, e1, x1, hbb, hia, _⟩ := copy_ia (P := Tryd.prog) (t := 78) (g := g) app78 bls78e hs h0 (by omega)
  obtain ⟨h3, e3, m3, w3'⟩ := x85 (k := 0) (v0 := tv) (h := h) (h1 := h1) (v := v1) (by
    unfold f85 eqv
    have hne : cellsN g ≠ [] := by simpa using h0
    generalize cellsN g = L at hs hne
    cases hs with
    | nil => exact absurd rfl hne
    | @at_ b o c cs own l hb hr hk hc hl hx =>
      rw [some78]
      simp only [ifB_false]
      exact e1 _) (by obtain ⟨c, hc, _⟩ := hia.val; rw [hc]; rfl)
  exact k v1 h3 bb e3 (w3' x1) hbb (hia.ext m3.ext)

/-- The program's town without an edge. -/
theorem s87 {tv : Value} {g : List Nat} {a b : Nat} {h : H} (hg : GrB g) (ha : a < g.length) (hb : b < g.length) (hab : a ≠ b) (hs : SlR h 3 1 tv (cellsN g)) :
    ∃ v' h', rn 87 #[tv, .agg #[iv a, iv b]] h = some (v', h') ∧ Exw h h' ∧ ∃ bb, h.nx ≤ bb ∧ IA h' bb v' ((delE g a b).map Int.ofNat) := by
  have hlen := hg.len
  have xb := Ext.new h (.row [iv a, iv b] 32 true)
  refine s85 hg (by rintro rfl; simp at ha) (hs.ext xb) fun v1 h1 bb e1 x1 hbb hia => ?_
  obtain ⟨h2, e2, hia2, n2, k2⟩ := del_stores hg ha hb hab hia
  rw [nx_new] at hbb
  have hq1 : h1.blk h.nx = some (.row [iv a, iv b] 32 true) := (x1.blk _ (by rw [nx_new]; omega)).trans (blk_new_self _ _)
  have x2 : Ext h h2 := ⟨by have := x1.nx; have := xb.nx; omega, fun q hq => by rw [k2 q (by omega)]; exact (xb.trans x1.toExt).blk q hq⟩
  have c85 := fun (K : Value → H → Option (Value × H)) => calls_eq (K := K) (xs := [tv]) e1
  obtain ⟨h3, e3, m3, w3'⟩ := x87 (k := 0) (v0 := tv) (v1 := .agg #[iv a, iv b]) (h := h) (h1 := h2) (v := v1) (by
    have := e2 (fun h4 => some (v1, h4))
    have h1' := hia.set a ((without (nb g a) (2 ^ b) : Nat) : Int)
    unfold f87
    rw [bx_eq, show (Value.agg #[iv (a : Int), iv (b : Int)]).cells.toList = [iv (a : Int), iv (b : Int)] from rfl, c85]
    rw [hia.get (by omega) (x := (nb g a : Nat)) (by rw [Int.toNat_natCast]; exact nb_get ha), asI_int, nn_ge (by omega), hia.put (by omega) (by simpa using ha), del1_calc hg hb] at this
    simp only [Int.toNat_natCast] at this
    rw [hia.wrc (i := a) (by simpa using ha), Option.bind_some] at this
    simp only [aix_in (show (0 : Int) ≤ 0 by omega) (show (0 : Int) < ((2 : Nat) : Int) by omega), aix_in (show (0 : Int) ≤ 1 by omega) (show (1 : Int) < ((2 : Nat) : Int) by omega), nx_eq, d3, at_, cell_of hq1]
    rw [show ([iv (a : Int), iv (b : Int)] : List Value)[0 + (0 : Int).toNat * 1]? = some (iv a) from rfl, Option.bind_some, asI_int,
      hia.get (by omega) (x := (nb g a : Nat)) (by rw [Int.toNat_natCast]; exact nb_get ha), asI_int]
    rw [show ([iv (a : Int), iv (b : Int)] : List Value)[0 + (1 : Int).toNat * 1]? = some (iv b) from rfl, Option.bind_some, asI_int, nn_ge (by omega),
      hia.put (by omega) (by simpa using ha), w3, del1_calc hg hb]
    simp only [Int.toNat_natCast]
    rw [hia.wrc (i := a) (by simpa using ha), Option.bind_some, cell_set, if_neg (by omega), cell_of hq1]
    rw [show ([iv (a : Int), iv (b : Int)] : List Value)[0 + (1 : Int).toNat * 1]? = some (iv b) from rfl, Option.bind_some, asI_int]
    rw [show (h1.set bb (.row (((g.map Int.ofNat).set a ((without (nb g a) (2 ^ b) : Nat) : Int)).map iv) 3 true)).cell h.nx (0 + (0 : Int).toNat * 1) = some (iv (a : Int)) by rw [cell_set, if_neg (by omega), cell_of hq1]; rfl]
    simp only [Option.bind_some, asI_int, w3]
    exact this) (by obtain ⟨c, hc, _⟩ := hia.val; rw [hc]; rfl)
  exact ⟨v1, h3, e3, w3' x2, bb, by omega, hia2.ext m3.ext⟩

/-! ### Bridges -/
theorem allN_delE (g : List Nat) (a b : Nat) : allN (delE g a b) = allN g := by unfold allN; rw [delE_len]

/-- Edges lead from a number to a greater one. -/
theorem mem_edges {g : List Nat} {e : Nat × Nat} : e ∈ edgesP g ↔ e.1 < e.2 ∧ e.2 < g.length ∧ adj g e.1 e.2 = true := by
  have key : ∀ (l : List Nat) (i : Nat) (s : List (Nat × Nat)), e ∈ foldI (fun _ a acc => edgeRow g a acc) l i s ↔ e ∈ s ∨ (e.1 ∈ l ∧ e.1 < e.2 ∧ e.2 < g.length ∧ adj g e.1 e.2 = true) := by
    intro l
    induction l with
    | nil => intro i s; simp [foldI]
    | cons a l ih =>
      intro i s
      simp only [foldI]
      rw [ih, edgeRow_eq, List.mem_append, List.mem_map]
      constructor
      · rintro ((h | ⟨j, hj, rfl⟩) | h)
        · exact .inl h
        · rw [List.mem_filter, List.mem_range] at hj
          exact .inr ⟨List.mem_cons_self, by simp only; omega, by simp only; omega, hj.2⟩
        · exact .inr ⟨List.mem_cons_of_mem _ h.1, h.2⟩
      · rintro (h | ⟨h1, h2, h3, h4⟩)
        · exact .inl (.inl h)
        · rcases List.mem_cons.1 h1 with h5 | h5
          · refine .inl (.inr ⟨e.2 - a - 1, ?_, Prod.ext h5.symm (by simp only; omega)⟩)
            rw [List.mem_filter, List.mem_range]
            refine ⟨by omega, ?_⟩
            rw [show a + 1 + (e.2 - a - 1) = e.2 by omega, ← h5]
            exact h4
          · exact .inr ⟨h5, h2, h3, h4⟩
  unfold edgesP
  rw [key]
  constructor
  · rintro (h | h)
    · simp at h
    · exact h.2
  · intro h
    exact .inr ⟨List.mem_range.2 (by omega), h⟩

theorem edges_len (g : List Nat) (hg : GrB g) : (edgesP g).length ≤ 100 := by
  have hlen := hg.len
  have key : ∀ (l : List Nat) (i : Nat) (s : List (Nat × Nat)), (foldI (fun _ a acc => edgeRow g a acc) l i s).length ≤ s.length + 10 * l.length := by
    intro l
    induction l with
    | nil => intro i s; simp [foldI]
    | cons a l ih =>
      intro i s
      simp only [foldI, List.length_cons]
      have h1 := ih (i + 1) (edgeRow g a s)
      have h2 := edgeRow_len (g := g) (a := a) (acc := s)
      omega
  have := key (List.range g.length) 0 []
  unfold edgesP
  simp at this
  omega

end Go.AM

end

section

/- The program's bridges: edges are deleted in place. -/
namespace Go.AM
open Go.Proofs
variable {R : Type}
attribute [local simp] nx_eq nx_new nx_set blk_new blk_set asI_int asK_int asB_bool asP_ptr al_eq bx_eq len_slice onE_exit onE_ret onR_ret Value.cells d3 d22 d23 d32 d78 w3 w32 cell_new cell_set rd_new rd_set off eq lt le ifB gv out ext20 ext21
theorem s26 {v : Value} {g : List Nat} {h : H} (hg : GrN g) (hs : SlR h 3 1 v (cellsN g)) : rn 26 #[v] h = some (iv (cutsP g (allN g) : Nat), h) := by
  have c68 := fun (K : Value → H → Option (Value × H)) => calls_eq (K := K) (xs := [v]) (s68 hg.toGrB hs)
  have c74 := fun (K : Value → H → Option (Value × H)) => calls_eq (K := K) (xs := [v, iv (allN g : Nat)]) (s74 hg.toGrB hs (allN_lt g))
  refine p26 (k := 0) (h1 := h) ?_ rfl (.refl _)
  simp [f26, c68, c74]

end Go.AM

end

section

/- The staged forms of functions 44, 90, 46, 91, 107, 108, 43, 40, 45, 47, 92, 9, 10, and what calls of these answer. -/
namespace Go.AM
open Go.Proofs
noncomputable def f9 (rec : Rec) (_k : Nat) (v0 : Value) (h0 : H) : Option (Value × H) :=
  calls rec h0 18 [v0] fun v1 h1 =>
  calls rec h1 44 [v1] fun v2 h2 =>
  ext v2 0 fun v3 =>
  ext v2 1 fun v4 =>
  asI .i64 v4 fun n0 =>
  calls rec h2 18 [v0] fun v5 h3 =>
  calls rec h3 45 [v5] fun v6 h4 =>
  ext v6 0 fun v7 =>
  asB v7 fun q0 =>
  ext v6 1 fun v8 =>
  asI .i64 v8 fun n1 =>
  calls rec h4 19 [v0] fun v9 h5 =>
  asB v9 fun q1 =>
  ifB (not q1) (
    len v3 fun n2 =>
    ifB (eq n2 0) (
      ifB (not q0) (
        ifB (eq n0 2) (
          ifB (eq n1 2) (
            calls rec h5 20 [] fun v10 h6 =>
            asB v10 fun q2 =>
            some ((.bool q2), h6)) (
            some ((.bool false), h5))) (
          some ((.bool false), h5))) (
        some ((.bool false), h5))) (
      some ((.bool false), h5))) (
    calls rec h5 46 [v0] fun v11 h7 =>
    calls rec h7 40 [v3, v11] fun v12 h8 =>
    asB v12 fun q3 =>
    ifB q3 (
      calls rec h8 47 [v0] fun v13 h9 =>
      asB v13 fun q4 =>
      eqv Tryd.prog 4 (.bool q0) (.bool q4) fun q5 =>
      ifB q5 (
        ifB (eq n0 0) (
          ifB (eq n1 0) (
            calls rec h9 20 [] fun v14 h10 =>
            asB v14 fun q6 =>
            some ((.bool q6), h10)) (
            some ((.bool false), h9))) (
          some ((.bool false), h9))) (
        some ((.bool false), h9))) (
      some ((.bool false), h8)))

theorem e9 (rec : Rec) (k : Nat) (v0 : Value) (h : H) : bodyT Tryd.prog E0 SC (XC Tryd.prog rec k) 9 (Value × H) [.opq v0] h (fun v h => some (v, h)) = f9 rec k v0 h := by kernel_rfl

theorem t9 {k : Nat} {v0 : Value} {h h1 : H} {v : Value} (hh : f9 rn k v0 h = some (v, h1)) : rn 9 #[v0] h = some (v, trunc Tryd.prog h h1 v) :=
  run_of_bodyT (args := [.opq v0]) rfl ((e9 _ _ _ _).trans hh)

theorem x9 {k : Nat} {v0 : Value} {h h1 : H} {v : Value} (hh : f9 rn k v0 h = some (v, h1)) (hp : plainO v = false) : ∃ h2, rn 9 #[v0] h = some (v, h2) ∧ Sm h1 h2 ∧ (Ext h h1 → Exw h h2) := trunc_cell hp (t9 hh)

noncomputable def f10_l2 (rec : Rec) (_k : Nat) (v0 : Value) (n5 : Int) (n6 : Int) (ws1 : List Value) (h7 : H) : Option (Ex × List Value × H) :=
  asI .i64 (gv ws1 1) fun n7 =>
  ifB (lt n7 n6) (
    asK (gv ws1 1) fun n8 =>
    six v0 n8 1 fun b2 b3 =>
    ld Tryd.prog h7 3 b2 b3 fun v11 =>
    asI .i64 v11 fun n9 =>
    asK (gv ws1 1) fun n10 =>
    nn n10 (
      ifB (eq (and .i64 (shr .i64 n5 n10) 1) 1) (
        calls rec h7 43 [(.int .i64 (and .i64 n9 n5))] fun v12 h8 =>
        asI .i64 v12 fun n11 =>
        asI .i64 (gv ws1 0) fun n12 =>
        asI .i64 (gv ws1 1) fun n13 =>
        out .normal [(.int .i64 (add .i64 n12 n11)), (.int .i64 (add .i64 n13 1))] h8) (
        asI .i64 (gv ws1 1) fun n14 =>
        out .normal [gv ws1 0, (.int .i64 (add .i64 n14 1))] h7))) (
    out (.exit 2) [gv ws1 0, gv ws1 1] h7)

noncomputable def f10_l1 (rec : Rec) (k : Nat) (v0 : Value) (v7 : Value) (n2 : Int) (ws0 : List Value) (h6 : H) : Option (Ex × List Value × H) :=
  asI .i64 (gv ws0 1) fun n3 =>
  ifB (lt n3 n2) (
    asK (gv ws0 1) fun n4 =>
    six v7 n4 1 fun b0 b1 =>
    ld Tryd.prog h6 3 b0 b1 fun v10 =>
    asI .i64 v10 fun n5 =>
    len v0 fun n6 =>
    lp k (f10_l2 rec k v0 n5 n6) [(.int .i64 0), (.int .i64 0)] h6 fun e0 ws2 h9 =>
    onE e0 2 (
      asB (gv ws0 0) fun q2 =>
      ifB q2 (
        asI .i64 (gv ws2 0) fun n15 =>
        nz 2 (
          calls rec h9 43 [(.int .i64 n5)] fun v13 h10 =>
          asI .i64 v13 fun n16 =>
          ifB (eq (quo .i64 n15 2) n16) (
            asI .i64 (gv ws0 1) fun n17 =>
            out .normal [(.bool true), (.int .i64 (add .i64 n17 1))] h10) (
            calls rec h10 43 [(.int .i64 n5)] fun v14 h11 =>
            asI .i64 v14 fun n18 =>
            asI .i64 (gv ws0 1) fun n19 =>
            out .normal [(.bool (le n18 2)), (.int .i64 (add .i64 n19 1))] h11))) (
        asI .i64 (gv ws0 1) fun n20 =>
        out .normal [(.bool false), (.int .i64 (add .i64 n20 1))] h9)) (
      none)) (
    out (.exit 0) [gv ws0 0, gv ws0 1] h6)

noncomputable def f10 (rec : Rec) (k : Nat) (v0 : Value) (h0 : H) : Option (Value × H) :=
  calls rec h0 18 [v0] fun v1 h1 =>
  calls rec h1 45 [v1] fun v2 h2 =>
  ext v2 0 fun v3 =>
  asB v3 fun q0 =>
  ext v2 1 fun v4 =>
  asI .i64 v4 fun n0 =>
  calls rec h2 18 [v0] fun v5 h3 =>
  calls rec h3 44 [v5] fun v6 h4 =>
  ext v6 0 fun v7 =>
  ext v6 1 fun v8 =>
  asI .i64 v8 fun n1 =>
  ifB (not (eq n0 0)) (
    ifB (eq n0 2) (
      ifB (eq n1 2) (
        calls rec h4 20 [] fun v9 h5 =>
        asB v9 fun q1 =>
        some ((.bool q1), h5)) (
        some ((.bool false), h4))) (
      some ((.bool false), h4))) (
    len v7 fun n2 =>
    lp k (f10_l1 rec k v0 v7 n2) [(.bool true), (.int .i64 0)] h4 fun e1 ws3 h12 =>
    onE e1 0 (
      ifB (eq n1 0) (
        eqv Tryd.prog 4 (.bool q0) (gv ws3 0) fun q3 =>
        ifB q3 (
          calls rec h12 20 [] fun v15 h13 =>
          asB v15 fun q4 =>
          some ((.bool q4), h13)) (
          some ((.bool false), h12))) (
        some ((.bool false), h12))) (
      none))

theorem e10 (rec : Rec) (k : Nat) (v0 : Value) (h : H) : bodyT Tryd.prog E0 SC (XC Tryd.prog rec k) 10 (Value × H) [.opq v0] h (fun v h => some (v, h)) = f10 rec k v0 h := by kernel_rfl

end Go.AM

end

section

/- Blocks, the walk. -/
namespace Go.AM
open Go.Proofs
variable {R : Type}
attribute [local simp] nx_eq nx_new nx_set blk_new blk_set asI_int asK_int asB_bool asP_ptr al_eq bx_eq len_slice onE_exit onE_ret onR_ret Value.cells d3 d22 d23 d32 d78 w3 w32 cell_new cell_set rd_new rd_set off eq lt le ifB gv out ext20 ext21
/-! ### The program's blocks -/
/-- A lone node, or a set of more that is connected without a cut node. -/
noncomputable def cand2 (g : List Nat) (S : Nat) : Bool := decide (1 < pop S) && connS g S && decide (cutsP g S = 0)

end Go.AM

end

section

/- PLAIN: connected sets, sets without cut nodes, how many ends of edges there are. -/
namespace Go.AM
open Go.Proofs
/-! ### Reaching -/
theorem Rch.trans {g : List Nat} {W a b c : Nat} (h1 : Rch g W a b) (h2 : Rch g W b c) : Rch g W a c := by
  induction h2 with
  | base => exact h1
  | step _ hab hb ih => exact .step ih hab hb

theorem Rch.mem {g : List Nat} {W a b : Nat} (h : Rch g W a b) (ha : W.testBit a = true) : W.testBit b = true := by
  cases h with
  | base => exact ha
  | step _ _ hb => exact hb

theorem Rch.one {g : List Nat} {W a b : Nat} (h : adj g a b = true) (hb : W.testBit b = true) : Rch g W a b := .step .base h hb

theorem Rch.sym {g : List Nat} (hs : ∀ a b, adj g a b = adj g b a) {W a b : Nat} (h : Rch g W a b) (ha : W.testBit a = true) : Rch g W b a := by
  induction h with
  | base => exact .base
  | @step x y hx hxy hy ih => exact (Rch.one (by rw [hs]; exact hxy) (hx.mem ha)).trans ih

theorem Rch.mono {g : List Nat} {W W' a b : Nat} (h : Rch g W a b) (hs : ∀ i, W.testBit i = true → W'.testBit i = true) : Rch g W' a b := by
  induction h with
  | base => exact .base
  | step _ hab hb ih => exact .step ih hab (hs _ hb)

/-- A set all of whose nodes reach each other within it. -/
def Conn (g : List Nat) (S : Nat) : Prop := ∀ a b, S.testBit a = true → S.testBit b = true → Rch g S a b

theorem conn_iff {g : List Nat} (hg : GrN g) {S : Nat} (hS : S < 2 ^ g.length) : connS g S = true ↔ Conn g S := by
  have hpow := hg.pow
  have hlen := hg.len
  have hS' : S < 1024 := by omega
  unfold connS
  by_cases h0 : S = 0
  · subst h0
    simp only [decide_true, Bool.true_or, true_iff]
    intro a b ha
    simp at ha
  · have hl := low_lt hg.toGrB hS h0
    have hlb := low_bit (Nat.pos_of_ne_zero h0) hS'
    rw [decide_eq_false h0, Bool.false_or, decide_eq_true_iff]
    constructor
    · intro h a b ha hb
      have h1 : ∀ i, S.testBit i = true → Rch g S (low S) i := fun i hi => (rch_bit (by omega) hS').1 (by rw [h]; exact hi)
      exact ((h1 a ha).sym hg.sym hlb).trans (h1 b hb)
    · intro h
      refine (rch_eq (by omega) hS' hS' hlb (fun u hu => h _ _ hlb hu) fun a b _ _ hb => hb).symm

/-- A set of which any node may be taken away. -/
def Bi (g : List Nat) (S : Nat) : Prop := ∀ w, Conn g (without S (2 ^ w))

theorem bit_del {S w i : Nat} : (without S (2 ^ w)).testBit i = true ↔ S.testBit i = true ∧ i ≠ w := by
  rw [testBit_without, Nat.testBit_two_pow, Bool.and_eq_true, Bool.not_eq_true', decide_eq_false_iff_not]
  exact ⟨fun h => ⟨h.1, fun e => h.2 e.symm⟩, fun h => ⟨h.1, fun e => h.2 e.symm⟩⟩

theorem del_none {S w : Nat} (h : S.testBit w = false) : without S (2 ^ w) = S := by
  refine Nat.eq_of_testBit_eq fun i => ?_
  rw [Bool.eq_iff_iff, bit_del]
  exact ⟨And.left, fun hi => ⟨hi, fun e => by subst e; rw [h] at hi; cases hi⟩⟩

theorem Bi.conn {g : List Nat} {S : Nat} (hS : S < 1024) (h : Bi g S) : Conn g S := by
  have := h 10
  rwa [del_none (big_bit (n := 10) hS (Nat.le_refl _))] at this

theorem cand2_iff {g : List Nat} (hg : GrN g) {S : Nat} (hS : S < 2 ^ g.length) : cand2 g S = true ↔ 1 < pop S ∧ Bi g S := by
  have hpow := hg.pow
  have hlen := hg.len
  have hS' : S < 1024 := by omega
  unfold cand2
  simp only [Bool.and_eq_true, decide_eq_true_iff]
  have hrch : Conn g S → ∀ v, S.testBit v = true → rch g S v = S := fun hc v hv =>
    (rch_eq (by have := bit_lt hS hv; omega) hS' hS' hv (fun u hu => hc _ _ hv hu) fun a b _ _ hb => hb).symm
  have hcut : Conn g S → (cutsP g S = 0 ↔ ∀ v, S.testBit v = true → Conn g (without S (2 ^ v))) := by
    intro hc
    constructor
    · intro h v hv
      have h1 : ¬ (cutsP g S).testBit v = true := by rw [h]; simp
      rw [cutsP_bit hS'] at h1
      have h2 : cutQ g S v = false := by
        cases hq : cutQ g S v with
        | false => rfl
        | true => exact absurd ⟨hv, hq⟩ h1
      unfold cutQ at h2
      rw [hrch hc v hv, Bool.not_eq_false'] at h2
      exact (conn_iff hg (without_le _ _ hS)).1 h2
    · intro h
      refine Nat.eq_of_testBit_eq fun v => ?_
      rw [Nat.zero_testBit, Bool.eq_false_iff]
      intro hb
      obtain ⟨hv, hq⟩ := (cutsP_bit hS').1 hb
      unfold cutQ at hq
      rw [hrch hc v hv, (conn_iff hg (without_le _ _ hS)).2 (h v hv)] at hq
      cases hq
  constructor
  · rintro ⟨⟨h1, h2⟩, h3⟩
    have hc := (conn_iff hg hS).1 h2
    refine ⟨h1, fun w => ?_⟩
    cases hw : S.testBit w with
    | false => rw [del_none hw]; exact hc
    | true => exact (hcut hc).1 h3 w hw
  · rintro ⟨h1, h2⟩
    have hc := h2.conn hS'
    exact ⟨⟨h1, (conn_iff hg hS).2 hc⟩, (hcut hc).2 fun v _ => h2 v⟩

/-! ### Ends of edges -/
/-- How many ends of edges lie in a set. -/
def ends (g : List Nat) (b : Nat) : Nat := foldI (fun _ v s => s + pop (nb g v &&& b)) (elts b) 0 0

/-- A node more than some few. -/
theorem exists_other {S a b : Nat} (hS : S < 1024) (h : 2 < pop S) : ∃ c, S.testBit c = true ∧ c ≠ a ∧ c ≠ b := by
  refine Classical.byContradiction fun hc => ?_
  have hall : ∀ c, S.testBit c = true → c = a ∨ c = b := fun c hcb => Classical.byContradiction fun hh => hc ⟨c, hcb, fun e => hh (.inl e), fun e => hh (.inr e)⟩
  have hlen := elts_len S
  have hnd := elts_nodup S
  have hm : ∀ c ∈ elts S, c = a ∨ c = b := fun c h => hall c ((mem_elts hS).1 h)
  rw [← hlen] at h
  match hE : elts S with
  | [] => rw [hE] at h; simp at h
  | [x] => rw [hE] at h; simp at h
  | [x, y] => rw [hE] at h; simp at h
  | x :: y :: z :: l =>
    rw [hE] at hm hnd
    have h1 := hm x (by simp)
    have h2 := hm y (by simp)
    have h3 := hm z (by simp)
    simp only [List.nodup_cons, List.mem_cons, not_or] at hnd
    omega

theorem exists_other1 {S a : Nat} (hS : S < 1024) (h : 1 < pop S) : ∃ c, S.testBit c = true ∧ c ≠ a := by
  refine Classical.byContradiction fun hc => ?_
  have hall : ∀ c, S.testBit c = true → c = a := fun c hcb => Classical.byContradiction fun hh => hc ⟨c, hcb, hh⟩
  have hlen := elts_len S
  have hnd := elts_nodup S
  have hm : ∀ c ∈ elts S, c = a := fun c h => hall c ((mem_elts hS).1 h)
  rw [← hlen] at h
  match hE : elts S with
  | [] => rw [hE] at h; simp at h
  | [x] => rw [hE] at h; simp at h
  | x :: y :: l =>
    rw [hE] at hm hnd
    have h1 := hm x (by simp)
    have h2 := hm y (by simp)
    simp only [List.nodup_cons, List.mem_cons, not_or] at hnd
    omega

/-- Who reaches another node has a neighbour. -/
theorem Rch.next {g : List Nat} {W a b : Nat} (h : Rch g W a b) (hne : b ≠ a) : ∃ u, adj g a u = true ∧ W.testBit u = true ∧ Rch g W u b := by
  induction h with
  | base => exact absurd rfl hne
  | @step x y hx hxy hy ih =>
    by_cases hxa : x = a
    · subst hxa
      exact ⟨y, hxy, hy, .base⟩
    · obtain ⟨u, h1, h2, h3⟩ := ih hxa
      exact ⟨u, h1, h2, .step h3 hxy hy⟩

/-! ### Cactus -/
end Go.AM

end

section

/- Blocks and cactus: the laws. -/
namespace Go.AM
open Go.Proofs
variable {R : Type}
attribute [local simp] nx_eq nx_new nx_set blk_new blk_set asI_int asK_int asB_bool asP_ptr al_eq bx_eq len_slice onE_exit onE_ret onR_ret Value.cells d3 d22 d23 d32 d78 w3 w32 cell_new cell_set rd_new rd_set off eq lt le ifB gv out ext20 ext21
theorem keqv4 (a b : Bool) (K : Bool → Option R) : eqv Tryd.prog 4 (.bool a) (.bool b) K = K (a == b) := by
  have : binOp Tryd.prog .eql 4 (.bool a) (.bool b) = some (.bool (a == b)) := by
    cases a <;> cases b <;> kernel_rfl
  unfold eqv
  rw [this]

end Go.AM

end

section

/- PLAIN: ears on sets without cut nodes; where blocks meet. -/
namespace Go.AM
open Go.Proofs
/-- A list of nodes as a set. -/
def setOf (l : List Nat) : Nat := l.foldr (fun i s => s ||| 2 ^ i) 0

theorem setOf_bit {l : List Nat} {i : Nat} : (setOf l).testBit i = true ↔ i ∈ l := by
  induction l with
  | nil => simp [setOf]
  | cons x l ih =>
    unfold setOf at ih ⊢
    rw [List.foldr_cons, Nat.testBit_or, Bool.or_eq_true, ih, Nat.testBit_two_pow, decide_eq_true_iff, List.mem_cons]
    exact ⟨fun h => h.elim .inr fun e => .inl e.symm, fun h => h.elim (fun e => .inr e.symm) .inl⟩

theorem setOf_lt {l : List Nat} {n : Nat} (h : ∀ i ∈ l, i < n) : setOf l < 2 ^ n := by
  refine Nat.lt_pow_two_of_testBit _ fun i hi => ?_
  rw [Bool.eq_false_iff]
  intro hb
  have := h i (setOf_bit.1 hb)
  omega

/-! ### Blocks -/
/-- A way within a set without one end of an edge does not use the edge. -/
theorem Rch.del {g : List Nat} (hg : GrN g) {a b W s t : Nat} (hab : adj g a b = true) (hz : W.testBit a = false ∨ W.testBit b = false) (hs : W.testBit s = true) (hW : W < 2 ^ g.length) (h : Rch g W s t) : Rch (delE g a b) (allN g) s t := by
  obtain ⟨ha, hb⟩ := hg.adj_lt hab
  have hne : a ≠ b := by rintro rfl; rw [hg.irr] at hab; cases hab
  induction h with
  | base => exact .base
  | @step x y hx hxy hy ih =>
    refine .step ih ?_ (by rw [allN_bit, decide_eq_true (bit_lt hW hy)])
    have hxW := hx.mem hs
    rw [adj_delE ha hb hne, hxy, Bool.true_and, Bool.not_eq_true', Bool.or_eq_false_iff, decide_eq_false_iff_not, decide_eq_false_iff_not]
    constructor
    · rintro ⟨rfl, rfl⟩
      rcases hz with h | h
      · rw [hxW] at h; cases h
      · rw [hy] at h; cases h
    · rintro ⟨rfl, rfl⟩
      rcases hz with h | h
      · rw [hy] at h; cases h
      · rw [hxW] at h; cases h

end Go.AM

end

section

/- The staged forms of functions 11, 12, 48, 49, 50, 51, 53, 94, 95, 96, 110, and what calls of these answer. -/
namespace Go.AM
open Go.Proofs
noncomputable def f11_l3 (_rec : Rec) (_k : Nat) (v3 : Value) (ws0 : List Value) (ws1 : List Value) (n8 : Int) (ws2 : List Value) (h11 : H) : Option (Ex × List Value × H) :=
  asI .i64 (gv ws2 1) fun n9 =>
  ifB (lt n9 n8) (
    asK (gv ws2 1) fun n10 =>
    six v3 n10 1 fun b0 b1 =>
    ld Tryd.prog h11 3 b0 b1 fun v15 =>
    asI .i64 v15 fun n11 =>
    asK (gv ws0 1) fun n12 =>
    nn n12 (
      asK (gv ws1 1) fun n13 =>
      nn n13 (
        asI .i64 (gv ws2 0) fun n14 =>
        asI .i64 (gv ws2 1) fun n15 =>
        out .normal [(.int .i64 (add .i64 n14 (mul .i64 (and .i64 (shr .i64 n11 n12) 1) (and .i64 (shr .i64 n11 n13) 1)))), (.int .i64 (add .i64 n15 1))] h11))) (
    out (.exit 4) [gv ws2 0, gv ws2 1] h11)

noncomputable def f11_l2 (rec : Rec) (k : Nat) (v0 : Value) (v3 : Value) (v11 : Value) (ws0 : List Value) (ws1 : List Value) (h10 : H) : Option (Ex × List Value × H) :=
  asI .i64 (gv ws1 1) fun n6 =>
  asI .i64 (gv ws0 1) fun n7 =>
  ifB (lt n6 n7) (
    len v3 fun n8 =>
    lp k (f11_l3 rec k v3 ws0 ws1 n8) [(.int .i64 0), (.int .i64 0)] h10 fun e0 ws3 h12 =>
    onE e0 4 (
      asK (gv ws0 1) fun n16 =>
      six v0 n16 1 fun b2 b3 =>
      ld Tryd.prog h12 3 b2 b3 fun v16 =>
      asI .i64 v16 fun n17 =>
      asK (gv ws1 1) fun n18 =>
      nn n18 (
        ifB (eq (and .i64 (shr .i64 n17 n18) 1) 1) (
          asI .i64 (gv ws3 0) fun n19 =>
          ifB (not (eq n19 1)) (
            out .ret [(.bool false), gv ws1 1] h12) (
            asI .i64 (gv ws3 0) fun n20 =>
            ifB (lt 1 n20) (
              out .ret [(.bool false), gv ws1 1] h12) (
              asI .i64 (gv ws3 0) fun n21 =>
              ifB (eq n21 1) (
                asK (gv ws0 1) fun n22 =>
                nn n22 (
                  asK (gv ws1 1) fun n23 =>
                  nn n23 (
                    calls rec h12 49 [v3, (.int .i64 (or .i64 (shl .i64 1 n22) (shl .i64 1 n23)))] fun v17 h13 =>
                    asB v17 fun q2 =>
                    bld Tryd.prog 32 [(0, gv ws1 1), (1, gv ws0 1)] fun v18 =>
                    calls rec h13 50 [v11, v18] fun v19 h14 =>
                    asB v19 fun q3 =>
                    eqv Tryd.prog 4 (.bool q2) (.bool q3) fun q4 =>
                    ifB (not q4) (
                      out .ret [(.bool false), gv ws1 1] h14) (
                      asI .i64 (gv ws1 1) fun n24 =>
                      out .normal [gv ws1 0, (.int .i64 (add .i64 n24 1))] h14)))) (
                bld Tryd.prog 32 [(0, gv ws1 1), (1, gv ws0 1)] fun v20 =>
                calls rec h12 50 [v11, v20] fun v21 h15 =>
                asB v21 fun q5 =>
                eqv Tryd.prog 4 (.bool false) (.bool q5) fun q6 =>
                ifB (not q6) (
                  out .ret [(.bool false), gv ws1 1] h15) (
                  asI .i64 (gv ws1 1) fun n25 =>
                  out .normal [gv ws1 0, (.int .i64 (add .i64 n25 1))] h15))))) (
          asI .i64 (gv ws3 0) fun n26 =>
          ifB (lt 1 n26) (
            out .ret [(.bool false), gv ws1 1] h12) (
            asI .i64 (gv ws3 0) fun n27 =>
            ifB (eq n27 1) (
              asK (gv ws0 1) fun n28 =>
              nn n28 (
                asK (gv ws1 1) fun n29 =>
                nn n29 (
                  calls rec h12 49 [v3, (.int .i64 (or .i64 (shl .i64 1 n28) (shl .i64 1 n29)))] fun v22 h16 =>
                  asB v22 fun q7 =>
                  bld Tryd.prog 32 [(0, gv ws1 1), (1, gv ws0 1)] fun v23 =>
                  calls rec h16 50 [v11, v23] fun v24 h17 =>
                  asB v24 fun q8 =>
                  eqv Tryd.prog 4 (.bool q7) (.bool q8) fun q9 =>
                  ifB (not q9) (
                    out .ret [(.bool false), gv ws1 1] h17) (
                    asI .i64 (gv ws1 1) fun n30 =>
                    out .normal [gv ws1 0, (.int .i64 (add .i64 n30 1))] h17)))) (
              bld Tryd.prog 32 [(0, gv ws1 1), (1, gv ws0 1)] fun v25 =>
              calls rec h12 50 [v11, v25] fun v26 h18 =>
              asB v26 fun q10 =>
              eqv Tryd.prog 4 (.bool false) (.bool q10) fun q11 =>
              ifB (not q11) (
                out .ret [(.bool false), gv ws1 1] h18) (
                asI .i64 (gv ws1 1) fun n31 =>
                out .normal [gv ws1 0, (.int .i64 (add .i64 n31 1))] h18)))))) (
      none)) (
    out (.exit 2) [gv ws1 0, gv ws1 1] h10)

noncomputable def f11_l1 (rec : Rec) (k : Nat) (v0 : Value) (v3 : Value) (v11 : Value) (n4 : Int) (ws0 : List Value) (h9 : H) : Option (Ex × List Value × H) :=
  asI .i64 (gv ws0 1) fun n5 =>
  ifB (lt n5 n4) (
    lp k (f11_l2 rec k v0 v3 v11 ws0) [gv ws0 0, (.int .i64 0)] h9 fun e1 ws4 h19 =>
    onE e1 2 (
      asI .i64 (gv ws0 1) fun n32 =>
      out .normal [gv ws4 0, (.int .i64 (add .i64 n32 1))] h19) (
      onR e1 (
        out .ret [gv ws4 0, gv ws0 1] h19))) (
    out (.exit 0) [gv ws0 0, gv ws0 1] h9)

noncomputable def f11_l5 (_rec : Rec) (_k : Nat) (n1 : Int) (n36 : Int) (v28 : Value) (n37 : Int) (ws7 : List Value) (h22 : H) : Option (Ex × List Value × H) :=
  asI .i64 (gv ws7 1) fun n38 =>
  ifB (lt n38 n37) (
    asK (gv ws7 1) fun n39 =>
    six v28 n39 1 fun b6 b7 =>
    ld Tryd.prog h22 3 b6 b7 fun v29 =>
    asI .i64 v29 fun n40 =>
    ifB (not (eq (and .i64 n36 n40) 0)) (
      ifB (not (eq (and .i64 (and .i64 n36 n40) (sub .i64 (and .i64 n36 n40) 1)) 0)) (
        out .ret [(.bool false), gv ws7 1] h22) (
        ifB (not (eq (andNot .i64 (and .i64 n36 n40) n1) 0)) (
          out .ret [(.bool false), gv ws7 1] h22) (
          asI .i64 (gv ws7 1) fun n41 =>
          out .normal [gv ws7 0, (.int .i64 (add .i64 n41 1))] h22))) (
      asI .i64 (gv ws7 1) fun n42 =>
      out .normal [gv ws7 0, (.int .i64 (add .i64 n42 1))] h22)) (
    out (.exit 8) [gv ws7 0, gv ws7 1] h22)

noncomputable def f11_l4 (rec : Rec) (k : Nat) (v3 : Value) (n1 : Int) (n33 : Int) (ws6 : List Value) (h21 : H) : Option (Ex × List Value × H) :=
  asI .i64 (gv ws6 1) fun n34 =>
  ifB (lt n34 n33) (
    asK (gv ws6 1) fun n35 =>
    six v3 n35 1 fun b4 b5 =>
    ld Tryd.prog h21 3 b4 b5 fun v27 =>
    asI .i64 v27 fun n36 =>
    sli Tryd.prog h21 22 v3 none (some (gv ws6 1)) none fun v28 =>
    len v28 fun n37 =>
    lp k (f11_l5 rec k n1 n36 v28 n37) [gv ws6 0, (.int .i64 0)] h21 fun e3 ws8 h23 =>
    onE e3 8 (
      asI .i64 (gv ws6 1) fun n43 =>
      out .normal [gv ws8 0, (.int .i64 (add .i64 n43 1))] h23) (
      onR e3 (
        out .ret [gv ws8 0, gv ws6 1] h23))) (
    out (.exit 6) [gv ws6 0, gv ws6 1] h21)

noncomputable def f11 (rec : Rec) (k : Nat) (v0 : Value) (h0 : H) : Option (Value × H) :=
  calls rec h0 18 [v0] fun v1 h1 =>
  calls rec h1 44 [v1] fun v2 h2 =>
  ext v2 0 fun v3 =>
  ext v2 1 fun v4 =>
  asI .i64 v4 fun n0 =>
  calls rec h2 18 [v0] fun v5 h3 =>
  calls rec h3 24 [v5] fun v6 h4 =>
  ext v6 0 fun v7 =>
  asI .i64 v7 fun n1 =>
  ext v6 1 fun v8 =>
  asI .i64 v8 fun n2 =>
  calls rec h4 18 [v0] fun v9 h5 =>
  calls rec h5 23 [v9] fun v10 h6 =>
  ext v10 0 fun v11 =>
  ext v10 1 fun v12 =>
  asI .i64 v12 fun n3 =>
  ifB (not (eq n0 0)) (
    ifB (eq n0 2) (
      ifB (eq n2 2) (
        ifB (eq n3 2) (
          calls rec h6 20 [] fun v13 h7 =>
          asB v13 fun q0 =>
          some ((.bool q0), h7)) (
          some ((.bool false), h6))) (
        some ((.bool false), h6))) (
      some ((.bool false), h6))) (
    ifB (not (eq n2 0)) (
      some ((.bool false), h6)) (
      ifB (not (eq n3 0)) (
        some ((.bool false), h6)) (
        calls rec h6 48 [v3] fun v14 h8 =>
        asB v14 fun q1 =>
        ifB (not q1) (
          some ((.bool false), h8)) (
          len v0 fun n4 =>
          lp k (f11_l1 rec k v0 v3 v11 n4) [(.bool false), (.int .i64 0)] h8 fun e2 ws5 h20 =>
          onE e2 0 (
            len v3 fun n33 =>
            lp k (f11_l4 rec k v3 n1 n33) [gv ws5 0, (.int .i64 0)] h20 fun e4 ws9 h24 =>
            onE e4 6 (
              calls rec h24 20 [] fun v30 h25 =>
              asB v30 fun q12 =>
              some ((.bool q12), h25)) (
              onR e4 (
                some (gv ws9 0, h24)))) (
            onR e2 (
              some (gv ws5 0, h20)))))))

theorem e11 (rec : Rec) (k : Nat) (v0 : Value) (h : H) : bodyT Tryd.prog E0 SC (XC Tryd.prog rec k) 11 (Value × H) [.opq v0] h (fun v h => some (v, h)) = f11 rec k v0 h := by kernel_rfl

theorem t11 {k : Nat} {v0 : Value} {h h1 : H} {v : Value} (hh : f11 rn k v0 h = some (v, h1)) : rn 11 #[v0] h = some (v, trunc Tryd.prog h h1 v) :=
  run_of_bodyT (args := [.opq v0]) rfl ((e11 _ _ _ _).trans hh)

theorem x11 {k : Nat} {v0 : Value} {h h1 : H} {v : Value} (hh : f11 rn k v0 h = some (v, h1)) (hp : plainO v = false) : ∃ h2, rn 11 #[v0] h = some (v, h2) ∧ Sm h1 h2 ∧ (Ext h h1 → Exw h h2) := trunc_cell hp (t11 hh)

noncomputable def f12_l1 (rec : Rec) (_k : Nat) (v0 : Value) (h0 : H) (h2 : H) (v6 : Value) (n5 : Int) (ws0 : List Value) (h8 : H) : Option (Ex × List Value × H) :=
  asI .i64 (gv ws0 0) fun n6 =>
  ifB (lt n6 n5) (
    asK (gv ws0 0) fun n7 =>
    six v0 n7 1 fun b0 b1 =>
    ld Tryd.prog h8 3 b0 b1 fun v7 =>
    asI .i64 v7 fun n8 =>
    ld Tryd.prog h8 3 (nx h0) 0 fun v8 =>
    asI .i64 v8 fun n9 =>
    asI .i64 (gv ws0 0) fun n10 =>
    ld Tryd.prog h8 3 (nx h2) 0 fun v9 =>
    asI .i64 v9 fun n11 =>
    nz n11 (
      calls rec h8 51 [(.int .i64 n8), (pt (nx h0) 0), (pt (nx h2) 0)] fun v10 h9 =>
      asI .i64 v10 fun n12 =>
      ck (freq (nx h2) (nx h8) (same h9 h8)) (
        ck (freq (nx h0) (nx h8) (same h9 h8)) (
          six v6 (rem .i64 (add .i64 n10 n9) n11) 1 fun b2 b3 =>
          st Tryd.prog h9 3 b2 b3 (.int .i64 n12) fun h10 =>
          asI .i64 (gv ws0 0) fun n13 =>
          out .normal [(.int .i64 (add .i64 n13 1))] h10)))) (
    out (.exit 0) [gv ws0 0] h8)

noncomputable def f12_l2 (rec : Rec) (_k : Nat) (h0 : H) (h2 : H) (v13 : Value) (v17 : Value) (n31 : Int) (ws2 : List Value) (h29 : H) : Option (Ex × List Value × H) :=
  asI .i64 (gv ws2 1) fun n32 =>
  ifB (lt n32 n31) (
    asK (gv ws2 1) fun n33 =>
    six v13 n33 2 fun b4 b5 =>
    ld Tryd.prog h29 32 b4 b5 fun v44 =>
    al h29 32 [(.int .i64 0), (.int .i64 0)] fun h30 =>
    st Tryd.prog h30 32 (nx h29) 0 v44 fun h31 =>
    ld Tryd.prog h31 32 (nx h29) 0 fun v45 =>
    calls rec h31 53 [v45, (pt (nx h0) 0), (pt (nx h2) 0)] fun v46 h32 =>
    calls rec h32 50 [v17, v46] fun v47 h33 =>
    asB v47 fun q2 =>
    ifB (not q2) (
      out .ret [(.bool false), gv ws2 1] h33) (
      asI .i64 (gv ws2 1) fun n34 =>
      out .normal [gv ws2 0, (.int .i64 (add .i64 n34 1))] h33)) (
    out (.exit 2) [gv ws2 0, gv ws2 1] h29)

noncomputable def f12_l3 (rec : Rec) (_k : Nat) (h0 : H) (h2 : H) (v37 : Value) (v41 : Value) (n35 : Int) (ws4 : List Value) (h35 : H) : Option (Ex × List Value × H) :=
  asI .i64 (gv ws4 1) fun n36 =>
  ifB (lt n36 n35) (
    asK (gv ws4 1) fun n37 =>
    six v37 n37 2 fun b6 b7 =>
    ld Tryd.prog h35 32 b6 b7 fun v48 =>
    al h35 32 [(.int .i64 0), (.int .i64 0)] fun h36 =>
    st Tryd.prog h36 32 (nx h35) 0 v48 fun h37 =>
    ld Tryd.prog h37 32 (nx h35) 0 fun v49 =>
    calls rec h37 53 [v49, (pt (nx h0) 0), (pt (nx h2) 0)] fun v50 h38 =>
    calls rec h38 50 [v41, v50] fun v51 h39 =>
    asB v51 fun q3 =>
    ifB (not q3) (
      out .ret [(.bool false), gv ws4 1] h39) (
      asI .i64 (gv ws4 1) fun n38 =>
      out .normal [gv ws4 0, (.int .i64 (add .i64 n38 1))] h39)) (
    out (.exit 4) [gv ws4 0, gv ws4 1] h35)

noncomputable def f12_l4 (rec : Rec) (_k : Nat) (h0 : H) (h2 : H) (v29 : Value) (v33 : Value) (n39 : Int) (ws6 : List Value) (h41 : H) : Option (Ex × List Value × H) :=
  asI .i64 (gv ws6 1) fun n40 =>
  ifB (lt n40 n39) (
    asK (gv ws6 1) fun n41 =>
    six v29 n41 1 fun b8 b9 =>
    ld Tryd.prog h41 3 b8 b9 fun v52 =>
    asI .i64 v52 fun n42 =>
    calls rec h41 51 [(.int .i64 n42), (pt (nx h0) 0), (pt (nx h2) 0)] fun v53 h42 =>
    asI .i64 v53 fun n43 =>
    calls rec h42 49 [v33, (.int .i64 n43)] fun v54 h43 =>
    asB v54 fun q4 =>
    ifB (not q4) (
      out .ret [(.bool false), gv ws6 1] h43) (
      asI .i64 (gv ws6 1) fun n44 =>
      out .normal [gv ws6 0, (.int .i64 (add .i64 n44 1))] h43)) (
    out (.exit 6) [gv ws6 0, gv ws6 1] h41)

noncomputable def f12 (rec : Rec) (k : Nat) (v0 : Value) (n0 : Int) (h0 : H) : Option (Value × H) :=
  bx h0 3 (.int .i64 n0) fun h1 =>
  calls rec h1 19 [v0] fun v1 h2 =>
  asB v1 fun q0 =>
  ifB (not q0) (
    calls rec h2 20 [] fun v2 h3 =>
    asB v2 fun q1 =>
    some ((.bool q1), h3)) (
    len v0 fun n1 =>
    al h2 3 [(.int .i64 0)] fun h4 =>
    st Tryd.prog h4 3 (nx h2) 0 (.int .i64 n1) fun h5 =>
    ld Tryd.prog h5 3 (nx h0) 0 fun v3 =>
    asI .i64 v3 fun n2 =>
    ld Tryd.prog h5 3 (nx h2) 0 fun v4 =>
    asI .i64 v4 fun n3 =>
    nz (wr .u64 n3) (
      st Tryd.prog h5 3 (nx h0) 0 (.int .i64 (wr .i64 (rem .u64 (wr .u64 n2) (wr .u64 n3)))) fun h6 =>
      ld Tryd.prog h6 3 (nx h2) 0 fun v5 =>
      asI .i64 v5 fun n4 =>
      mks Tryd.prog h6 23 n4 n4 fun v6 h7 =>
      len v0 fun n5 =>
      lp k (f12_l1 rec k v0 h0 h2 v6 n5) [(.int .i64 0)] h7 fun e0 _ h11 =>
      onE e0 0 (
        calls rec h11 18 [v0] fun v11 h12 =>
        calls rec h12 23 [v11] fun v12 h13 =>
        ext v12 0 fun v13 =>
        ext v12 1 fun v14 =>
        asI .i64 v14 fun n14 =>
        calls rec h13 52 [v6] fun v15 h14 =>
        calls rec h14 23 [v15] fun v16 h15 =>
        ext v16 0 fun v17 =>
        ext v16 1 fun v18 =>
        asI .i64 v18 fun n15 =>
        calls rec h15 18 [v0] fun v19 h16 =>
        calls rec h16 24 [v19] fun v20 h17 =>
        ext v20 0 fun v21 =>
        asI .i64 v21 fun n16 =>
        ext v20 1 fun v22 =>
        asI .i64 v22 fun n17 =>
        calls rec h17 52 [v6] fun v23 h18 =>
        calls rec h18 24 [v23] fun v24 h19 =>
        ext v24 0 fun v25 =>
        asI .i64 v25 fun n18 =>
        ext v24 1 fun v26 =>
        asI .i64 v26 fun n19 =>
        calls rec h19 18 [v0] fun v27 h20 =>
        calls rec h20 44 [v27] fun v28 h21 =>
        ext v28 0 fun v29 =>
        ext v28 1 fun v30 =>
        asI .i64 v30 fun n20 =>
        calls rec h21 52 [v6] fun v31 h22 =>
        calls rec h22 44 [v31] fun v32 h23 =>
        ext v32 0 fun v33 =>
        ext v32 1 fun v34 =>
        asI .i64 v34 fun n21 =>
        calls rec h23 18 [v0] fun v35 h24 =>
        calls rec h24 17 [v35] fun v36 h25 =>
        ext v36 0 fun v37 =>
        ext v36 1 fun v38 =>
        asI .i64 v38 fun n22 =>
        calls rec h25 52 [v6] fun v39 h26 =>
        calls rec h26 17 [v39] fun v40 h27 =>
        ext v40 0 fun v41 =>
        ext v40 1 fun v42 =>
        asI .i64 v42 fun n23 =>
        ifB (not (eq n14 0)) (
          some ((.bool false), h27)) (
          ifB (not (eq n15 0)) (
            some ((.bool false), h27)) (
            ifB (not (eq n17 0)) (
              some ((.bool false), h27)) (
              ifB (not (eq n19 0)) (
                some ((.bool false), h27)) (
                ifB (not (eq n20 0)) (
                  some ((.bool false), h27)) (
                  ifB (not (eq n21 0)) (
                    some ((.bool false), h27)) (
                    ifB (not (eq n22 0)) (
                      some ((.bool false), h27)) (
                      ifB (not (eq n23 0)) (
                        some ((.bool false), h27)) (
                        calls rec h27 51 [(.int .i64 n16), (pt (nx h0) 0), (pt (nx h2) 0)] fun v43 h28 =>
                        asI .i64 v43 fun n24 =>
                        ifB (not (eq n24 n18)) (
                          some ((.bool false), h28)) (
                          len v13 fun n25 =>
                          len v17 fun n26 =>
                          ifB (not (eq n25 n26)) (
                            some ((.bool false), h28)) (
                            len v29 fun n27 =>
                            len v33 fun n28 =>
                            ifB (not (eq n27 n28)) (
                              some ((.bool false), h28)) (
                              len v37 fun n29 =>
                              len v41 fun n30 =>
                              ifB (not (eq n29 n30)) (
                                some ((.bool false), h28)) (
                                len v13 fun n31 =>
                                lp k (f12_l2 rec k h0 h2 v13 v17 n31) [(.bool false), (.int .i64 0)] h28 fun e1 ws3 h34 =>
                                onE e1 2 (
                                  len v37 fun n35 =>
                                  lp k (f12_l3 rec k h0 h2 v37 v41 n35) [gv ws3 0, (.int .i64 0)] h34 fun e2 ws5 h40 =>
                                  onE e2 4 (
                                    len v29 fun n39 =>
                                    lp k (f12_l4 rec k h0 h2 v29 v33 n39) [gv ws5 0, (.int .i64 0)] h40 fun e3 ws7 h44 =>
                                    onE e3 6 (
                                      calls rec h44 20 [] fun v55 h45 =>
                                      asB v55 fun q5 =>
                                      some ((.bool q5), h45)) (
                                      onR e3 (
                                        some (gv ws7 0, h44)))) (
                                    onR e2 (
                                      some (gv ws5 0, h40)))) (
                                  onR e1 (
                                    some (gv ws3 0, h34)))))))))))))))) (
        none)))

theorem e12 (rec : Rec) (k : Nat) (v0 : Value) (n0 : Int) (h : H) : bodyT Tryd.prog E0 SC (XC Tryd.prog rec k) 12 (Value × H) [.opq v0, .int .i64 n0] h (fun v h => some (v, h)) = f12 rec k v0 n0 h := by kernel_rfl

theorem t12 {k : Nat} {v0 : Value} {n0 : Int} {h h1 : H} {v : Value} (hh : f12 rn k v0 n0 h = some (v, h1)) : rn 12 #[v0, .int .i64 n0] h = some (v, trunc Tryd.prog h h1 v) :=
  run_of_bodyT (args := [.opq v0, .int .i64 n0]) rfl ((e12 _ _ _ _ _).trans hh)

theorem x12 {k : Nat} {v0 : Value} {n0 : Int} {h h1 : H} {v : Value} (hh : f12 rn k v0 n0 h = some (v, h1)) (hp : plainO v = false) : ∃ h2, rn 12 #[v0, .int .i64 n0] h = some (v, h2) ∧ Sm h1 h2 ∧ (Ext h h1 → Exw h h2) := trunc_cell hp (t12 hh)

end Go.AM

end

section

/- PLAIN: renaming the nodes of a graph. -/
namespace Go.AM
open Go.Proofs
/-- The nodes of one graph as those of another one. -/
structure Iso (g h : List Nat) (f f' : Nat → Nat) : Prop where
  len : h.length = g.length
  lt : ∀ i, i < g.length → f i < g.length
  lt' : ∀ i, i < g.length → f' i < g.length
  inv : ∀ i, i < g.length → f' (f i) = i
  inv' : ∀ i, i < g.length → f (f' i) = i
  adj : ∀ a b, a < g.length → b < g.length → AM.adj h (f a) (f b) = AM.adj g a b

theorem Iso.symm {g h : List Nat} {f f' : Nat → Nat} (s : Iso g h f f') : Iso h g f' f := by
  have hl := s.len
  refine ⟨hl.symm, fun i hi => by rw [hl] at hi ⊢; exact s.lt' i hi, fun i hi => by rw [hl] at hi ⊢; exact s.lt i hi, fun i hi => by rw [hl] at hi; exact s.inv' i hi, fun i hi => by rw [hl] at hi; exact s.inv i hi, fun a b ha hb => ?_⟩
  rw [hl] at ha hb
  rw [← s.adj _ _ (s.lt' a ha) (s.lt' b hb), s.inv' a ha, s.inv' b hb]

section
variable {g h : List Nat} {f f' : Nat → Nat} (s : Iso g h f f')
include s
theorem Iso.delE (hg : GrN g) (hh : GrN h) {a b : Nat} (ha : a < g.length) (hb : b < g.length) (hab : a ≠ b) : Iso (delE g a b) (AM.delE h (f a) (f b)) f f' := by
  have hl := s.len
  have hfab : f a ≠ f b := fun e => hab (by rw [← s.inv a ha, ← s.inv b hb, e])
  refine ⟨by rw [delE_len, delE_len]; exact hl, fun i hi => by rw [delE_len] at hi ⊢; exact s.lt i hi, fun i hi => by rw [delE_len] at hi ⊢; exact s.lt' i hi, fun i hi => by rw [delE_len] at hi; exact s.inv i hi, fun i hi => by rw [delE_len] at hi; exact s.inv' i hi, fun u v hu hv => ?_⟩
  rw [delE_len] at hu hv
  rw [adj_delE (by rw [hl]; exact s.lt a ha) (by rw [hl]; exact s.lt b hb) hfab, adj_delE ha hb hab, s.adj u v hu hv]
  have hi : ∀ x y, x < g.length → y < g.length → (f x = f y ↔ x = y) := fun x y hx hy => ⟨fun e => by rw [← s.inv x hx, ← s.inv y hy, e], fun e => by rw [e]⟩
  rw [decide_eq_decide.2 (and_congr (hi u a hu ha) (hi v b hv hb)), decide_eq_decide.2 (and_congr (hi u b hu hb) (hi v a hv ha))]

end
/-! ### Pairs in order, and how many there are -/
theorem len_le {α β : Type} [DecidableEq β] {F : α → β} : ∀ {l : List α} {l' : List β}, l.Nodup → (∀ x ∈ l, F x ∈ l') → (∀ x ∈ l, ∀ y ∈ l, F x = F y → x = y) → l.length ≤ l'.length := by
  intro l
  induction l with
  | nil => intro l' _ _ _; simp
  | cons x l ih =>
    intro l' hnd hm hi
    rw [List.nodup_cons] at hnd
    have h1 := hm x List.mem_cons_self
    have h2 := ih (l' := l'.erase (F x)) hnd.2 (fun y hy => by
      refine (List.mem_erase_of_ne fun e => ?_).2 (hm y (List.mem_cons_of_mem _ hy))
      have := hi y (List.mem_cons_of_mem _ hy) x List.mem_cons_self e
      subst this
      exact hnd.1 hy) fun a ha b hb => hi a (List.mem_cons_of_mem _ ha) b (List.mem_cons_of_mem _ hb)
    rw [List.length_erase_of_mem h1] at h2
    have := List.length_pos_of_mem h1
    rw [List.length_cons]
    omega

end Go.AM

end

section

/- The staged forms of functions 5, 6, 27, 28, 29, 30, 31, 32, 75, and what calls of these answer. -/
namespace Go.AM
open Go.Proofs
noncomputable def f5 (rec : Rec) (_k : Nat) (v0 : Value) (v1 : Value) (h0 : H) : Option (Value × H) :=
  calls rec h0 18 [v0] fun v2 h1 =>
  calls rec h1 27 [v2] fun v3 h2 =>
  ext v3 0 fun v4 =>
  ext v3 1 fun v5 =>
  asI .i64 v5 fun n0 =>
  calls rec h2 18 [v0] fun v6 h3 =>
  calls rec h3 29 [v1] fun v7 h4 =>
  calls rec h4 28 [v6, v7] fun v8 h5 =>
  ext v8 0 fun v9 =>
  asB v9 fun q0 =>
  ext v8 1 fun v10 =>
  asI .i64 v10 fun n1 =>
  calls rec h5 19 [v0] fun v11 h6 =>
  asB v11 fun q1 =>
  ifB (not q1) (
    len v4 fun n2 =>
    ifB (eq n2 0) (
      ifB (not q0) (
        ifB (eq n0 2) (
          ifB (eq n1 2) (
            calls rec h6 20 [] fun v12 h7 =>
            asB v12 fun q2 =>
            some ((.bool q2), h7)) (
            some ((.bool false), h6))) (
          some ((.bool false), h6))) (
        some ((.bool false), h6))) (
      some ((.bool false), h6))) (
    calls rec h6 30 [v0, v1] fun v13 h8 =>
    asB v13 fun q3 =>
    eqv Tryd.prog 4 (.bool q0) (.bool q3) fun q4 =>
    ifB (not q4) (
      some ((.bool false), h8)) (
      ifB (not (eq n1 0)) (
        some ((.bool false), h8)) (
        calls rec h8 20 [] fun v14 h9 =>
        asB v14 fun q5 =>
        ifB (not q5) (
          some ((.bool false), h9)) (
          calls rec h9 31 [v0] fun v15 h10 =>
          asB v15 fun q6 =>
          ifB (not q6) (
            len v4 fun n3 =>
            ifB (eq n3 0) (
              some ((.bool (eq n0 4)), h10)) (
              some ((.bool false), h10))) (
            ifB (eq n0 0) (
              calls rec h10 32 [v4] fun v16 h11 =>
              calls rec h11 30 [v0, v16] fun v17 h12 =>
              asB v17 fun q7 =>
              some ((.bool q7), h12)) (
              some ((.bool false), h10)))))))

theorem e5 (rec : Rec) (k : Nat) (v0 : Value) (v1 : Value) (h : H) : bodyT Tryd.prog E0 SC (XC Tryd.prog rec k) 5 (Value × H) [.opq v0, .opq v1] h (fun v h => some (v, h)) = f5 rec k v0 v1 h := by kernel_rfl

theorem t5 {k : Nat} {v0 : Value} {v1 : Value} {h h1 : H} {v : Value} (hh : f5 rn k v0 v1 h = some (v, h1)) : rn 5 #[v0, v1] h = some (v, trunc Tryd.prog h h1 v) :=
  run_of_bodyT (args := [.opq v0, .opq v1]) rfl ((e5 _ _ _ _ _).trans hh)

theorem p5 {k : Nat} {v0 : Value} {v1 : Value} {h h1 : H} {v : Value} (hh : f5 rn k v0 v1 h = some (v, h1)) (hp : plainO v = true) (x : Ext h h1) : rn 5 #[v0, v1] h = some (v, h) := by rw [t5 hh, trunc_pure hp x]

theorem x5 {k : Nat} {v0 : Value} {v1 : Value} {h h1 : H} {v : Value} (hh : f5 rn k v0 v1 h = some (v, h1)) (hp : plainO v = false) : ∃ h2, rn 5 #[v0, v1] h = some (v, h2) ∧ Sm h1 h2 ∧ (Ext h h1 → Exw h h2) := trunc_cell hp (t5 hh)

noncomputable def f6 (rec : Rec) (_k : Nat) (v0 : Value) (v1 : Value) (h0 : H) : Option (Value × H) :=
  calls rec h0 18 [v0] fun v2 h1 =>
  calls rec h1 27 [v2] fun v3 h2 =>
  ext v3 0 fun v4 =>
  ext v3 1 fun v5 =>
  asI .i64 v5 fun n0 =>
  calls rec h2 18 [v0] fun v6 h3 =>
  calls rec h3 23 [v6] fun v7 h4 =>
  ext v7 0 fun v8 =>
  ext v7 1 fun v9 =>
  asI .i64 v9 fun n1 =>
  calls rec h4 18 [v0] fun v10 h5 =>
  calls rec h5 29 [v1] fun v11 h6 =>
  calls rec h6 28 [v10, v11] fun v12 h7 =>
  ext v12 0 fun v13 =>
  asB v13 fun q0 =>
  ext v12 1 fun v14 =>
  asI .i64 v14 fun n2 =>
  ifB (not (eq n1 0)) (
    ifB (eq n0 2) (
      ifB (eq n1 2) (
        ifB (eq n2 2) (
          calls rec h7 20 [] fun v15 h8 =>
          asB v15 fun q1 =>
          some ((.bool q1), h8)) (
          some ((.bool false), h7))) (
        some ((.bool false), h7))) (
      some ((.bool false), h7))) (
    len v8 fun n3 =>
    ifB (eq n3 0) (
      len v0 fun n4 =>
      nn n4 (
        calls rec h7 33 [v0, (.int .i64 (sub .i64 (shl .i64 1 n4) 1)), (.int .i64 0)] fun v16 h9 =>
        asI .i64 v16 fun n5 =>
        len v0 fun n6 =>
        nn n6 (
          ifB (not (eq n2 0)) (
            some ((.bool false), h9)) (
            eqv Tryd.prog 4 (.bool (eq n0 0)) (.bool (eq n5 (sub .i64 (shl .i64 1 n6) 1))) fun q2 =>
            ifB (not q2) (
              some ((.bool false), h9)) (
              ifB (not (eq n0 0)) (
                ifB (not (eq n0 4)) (
                  some ((.bool false), h9)) (
                  ifB q0 (
                    ifB (not (eq n5 (sub .i64 (shl .i64 1 n6) 1))) (
                      some ((.bool false), h9)) (
                      ifB (not (eq n5 (sub .i64 (shl .i64 1 n6) 1))) (
                        calls rec h9 20 [] fun v17 h10 =>
                        asB v17 fun q3 =>
                        some ((.bool q3), h10)) (
                        calls rec h9 18 [v0] fun v18 h11 =>
                        calls rec h11 28 [v18, v4] fun v19 h12 =>
                        ext v19 0 fun v20 =>
                        asB v20 fun q4 =>
                        ext v19 1 fun v21 =>
                        asI .i64 v21 fun n7 =>
                        ifB q4 (
                          ifB (eq n7 0) (
                            calls rec h12 20 [] fun v22 h13 =>
                            asB v22 fun q5 =>
                            some ((.bool q5), h13)) (
                            some ((.bool false), h12))) (
                          some ((.bool false), h12))))) (
                    ifB (not (eq n5 (sub .i64 (shl .i64 1 n6) 1))) (
                      calls rec h9 20 [] fun v23 h14 =>
                      asB v23 fun q6 =>
                      some ((.bool q6), h14)) (
                      calls rec h9 18 [v0] fun v24 h15 =>
                      calls rec h15 28 [v24, v4] fun v25 h16 =>
                      ext v25 0 fun v26 =>
                      asB v26 fun q7 =>
                      ext v25 1 fun v27 =>
                      asI .i64 v27 fun n8 =>
                      ifB q7 (
                        ifB (eq n8 0) (
                          calls rec h16 20 [] fun v28 h17 =>
                          asB v28 fun q8 =>
                          some ((.bool q8), h17)) (
                          some ((.bool false), h16))) (
                        some ((.bool false), h16)))))) (
                ifB q0 (
                  ifB (not (eq n5 (sub .i64 (shl .i64 1 n6) 1))) (
                    some ((.bool false), h9)) (
                    ifB (not (eq n5 (sub .i64 (shl .i64 1 n6) 1))) (
                      calls rec h9 20 [] fun v29 h18 =>
                      asB v29 fun q9 =>
                      some ((.bool q9), h18)) (
                      calls rec h9 18 [v0] fun v30 h19 =>
                      calls rec h19 28 [v30, v4] fun v31 h20 =>
                      ext v31 0 fun v32 =>
                      asB v32 fun q10 =>
                      ext v31 1 fun v33 =>
                      asI .i64 v33 fun n9 =>
                      ifB q10 (
                        ifB (eq n9 0) (
                          calls rec h20 20 [] fun v34 h21 =>
                          asB v34 fun q11 =>
                          some ((.bool q11), h21)) (
                          some ((.bool false), h20))) (
                        some ((.bool false), h20))))) (
                  ifB (not (eq n5 (sub .i64 (shl .i64 1 n6) 1))) (
                    calls rec h9 20 [] fun v35 h22 =>
                    asB v35 fun q12 =>
                    some ((.bool q12), h22)) (
                    calls rec h9 18 [v0] fun v36 h23 =>
                    calls rec h23 28 [v36, v4] fun v37 h24 =>
                    ext v37 0 fun v38 =>
                    asB v38 fun q13 =>
                    ext v37 1 fun v39 =>
                    asI .i64 v39 fun n10 =>
                    ifB q13 (
                      ifB (eq n10 0) (
                        calls rec h24 20 [] fun v40 h25 =>
                        asB v40 fun q14 =>
                        some ((.bool q14), h25)) (
                        some ((.bool false), h24))) (
                      some ((.bool false), h24)))))))))) (
      ifB (not (eq n2 0)) (
        some ((.bool false), h7)) (
        eqv Tryd.prog 4 (.bool (eq n0 0)) (.bool false) fun q15 =>
        ifB (not q15) (
          some ((.bool false), h7)) (
          ifB (not (eq n0 0)) (
            ifB (not (eq n0 4)) (
              some ((.bool false), h7)) (
              ifB q0 (
                some ((.bool false), h7)) (
                calls rec h7 20 [] fun v41 h26 =>
                asB v41 fun q16 =>
                some ((.bool q16), h26)))) (
            ifB q0 (
              some ((.bool false), h7)) (
              calls rec h7 20 [] fun v42 h27 =>
              asB v42 fun q17 =>
              some ((.bool q17), h27)))))))

theorem e6 (rec : Rec) (k : Nat) (v0 : Value) (v1 : Value) (h : H) : bodyT Tryd.prog E0 SC (XC Tryd.prog rec k) 6 (Value × H) [.opq v0, .opq v1] h (fun v h => some (v, h)) = f6 rec k v0 v1 h := by kernel_rfl

theorem t6 {k : Nat} {v0 : Value} {v1 : Value} {h h1 : H} {v : Value} (hh : f6 rn k v0 v1 h = some (v, h1)) : rn 6 #[v0, v1] h = some (v, trunc Tryd.prog h h1 v) :=
  run_of_bodyT (args := [.opq v0, .opq v1]) rfl ((e6 _ _ _ _ _).trans hh)

theorem p6 {k : Nat} {v0 : Value} {v1 : Value} {h h1 : H} {v : Value} (hh : f6 rn k v0 v1 h = some (v, h1)) (hp : plainO v = true) (x : Ext h h1) : rn 6 #[v0, v1] h = some (v, h) := by rw [t6 hh, trunc_pure hp x]

noncomputable def f30_l1 (_rec : Rec) (_k : Nat) (v1 : Value) (v2 : Value) (v3 : Value) (n3 : Int) (ws0 : List Value) (h3 : H) : Option (Ex × List Value × H) :=
  asI .i64 (gv ws0 1) fun n4 =>
  ifB (lt n4 n3) (
    asK (gv ws0 1) fun n5 =>
    six v1 n5 2 fun b0 b1 =>
    ld Tryd.prog h3 94 b0 b1 fun v4 =>
    al h3 94 [(.int .i64 0), (.int .i64 0)] fun h4 =>
    st Tryd.prog h4 94 (nx h3) 0 v4 fun h5 =>
    ld Tryd.prog h5 94 (nx h3) 0 fun v5 =>
    asK (gv ws0 1) fun n6 =>
    six v2 n6 2 fun b2 b3 =>
    aix 2 0 (
      ld Tryd.prog h5 3 b2 (at_ b3 0 1) fun v6 =>
      asI .i64 v6 fun n7 =>
      asK (gv ws0 1) fun n8 =>
      six v2 n8 2 fun b4 b5 =>
      aix 2 1 (
        ld Tryd.prog h5 3 b4 (at_ b5 1 1) fun v7 =>
        asI .i64 v7 fun n9 =>
        bld Tryd.prog 94 [(0, (.int .i64 n7)), (1, (.int .i64 n9))] fun v8 =>
        eqv Tryd.prog 94 v5 v8 fun q0 =>
        ifB (not q0) (
          ld Tryd.prog h5 94 (nx h3) 0 fun v9 =>
          asK (gv ws0 1) fun n10 =>
          six v2 n10 2 fun b6 b7 =>
          aix 2 1 (
            ld Tryd.prog h5 3 b6 (at_ b7 1 1) fun v10 =>
            asI .i64 v10 fun n11 =>
            asK (gv ws0 1) fun n12 =>
            six v2 n12 2 fun b8 b9 =>
            aix 2 0 (
              ld Tryd.prog h5 3 b8 (at_ b9 0 1) fun v11 =>
              asI .i64 v11 fun n13 =>
              bld Tryd.prog 94 [(0, (.int .i64 n11)), (1, (.int .i64 n13))] fun v12 =>
              eqv Tryd.prog 94 v9 v12 fun q1 =>
              ifB (not q1) (
                out .ret [(.bool false), gv ws0 1] h5) (
                ld Tryd.prog h5 3 (nx h3) 0 fun v13 =>
                asI .i64 v13 fun n14 =>
                six v3 n14 1 fun b10 b11 =>
                ld Tryd.prog h5 3 b10 b11 fun v14 =>
                asI .i64 v14 fun n15 =>
                ld Tryd.prog h5 3 (nx h3) (off 0 1) fun v15 =>
                asI .i64 v15 fun n16 =>
                nn n16 (
                  six v3 n14 1 fun b12 b13 =>
                  st Tryd.prog h5 3 b12 b13 (.int .i64 (or .i64 n15 (shl .i64 1 n16))) fun h6 =>
                  asI .i64 (gv ws0 1) fun n17 =>
                  out .normal [gv ws0 0, (.int .i64 (add .i64 n17 1))] h6))))) (
          ld Tryd.prog h5 3 (nx h3) 0 fun v16 =>
          asI .i64 v16 fun n18 =>
          six v3 n18 1 fun b14 b15 =>
          ld Tryd.prog h5 3 b14 b15 fun v17 =>
          asI .i64 v17 fun n19 =>
          ld Tryd.prog h5 3 (nx h3) (off 0 1) fun v18 =>
          asI .i64 v18 fun n20 =>
          nn n20 (
            six v3 n18 1 fun b16 b17 =>
            st Tryd.prog h5 3 b16 b17 (.int .i64 (or .i64 n19 (shl .i64 1 n20))) fun h7 =>
            asI .i64 (gv ws0 1) fun n21 =>
            out .normal [gv ws0 0, (.int .i64 (add .i64 n21 1))] h7))))) (
    out (.exit 0) [gv ws0 0, gv ws0 1] h3)

noncomputable def f30_l2 (rec : Rec) (_k : Nat) (v0 : Value) (v3 : Value) (n22 : Int) (ws2 : List Value) (h9 : H) : Option (Ex × List Value × H) :=
  asI .i64 (gv ws2 1) fun n23 =>
  ifB (lt n23 n22) (
    calls rec h9 68 [v0] fun v19 h10 =>
    asI .i64 v19 fun n24 =>
    calls rec h10 33 [v3, (.int .i64 n24), gv ws2 1] fun v20 h11 =>
    asI .i64 v20 fun n25 =>
    calls rec h11 68 [v0] fun v21 h12 =>
    asI .i64 v21 fun n26 =>
    ifB (not (eq n25 n26)) (
      out .ret [(.bool false), gv ws2 1] h12) (
      asI .i64 (gv ws2 1) fun n27 =>
      out .normal [gv ws2 0, (.int .i64 (add .i64 n27 1))] h12)) (
    out (.exit 2) [gv ws2 0, gv ws2 1] h9)

noncomputable def f30 (rec : Rec) (k : Nat) (v0 : Value) (v1 : Value) (h0 : H) : Option (Value × H) :=
  calls rec h0 71 [v0] fun v2 h1 =>
  len v1 fun n0 =>
  len v2 fun n1 =>
  ifB (not (eq n0 n1)) (
    some ((.bool false), h1)) (
    len v0 fun n2 =>
    mks Tryd.prog h1 22 n2 n2 fun v3 h2 =>
    len v1 fun n3 =>
    lp k (f30_l1 rec k v1 v2 v3 n3) [(.bool false), (.int .i64 0)] h2 fun e0 ws1 h8 =>
    onE e0 0 (
      len v0 fun n22 =>
      lp k (f30_l2 rec k v0 v3 n22) [gv ws1 0, (.int .i64 0)] h8 fun e1 ws3 h13 =>
      onE e1 2 (
        some ((.bool true), h13)) (
        onR e1 (
          some (gv ws3 0, h13)))) (
      onR e0 (
        some (gv ws1 0, h8))))

theorem e30 (rec : Rec) (k : Nat) (v0 : Value) (v1 : Value) (h : H) : bodyT Tryd.prog E0 SC (XC Tryd.prog rec k) 30 (Value × H) [.opq v0, .opq v1] h (fun v h => some (v, h)) = f30 rec k v0 v1 h := by kernel_rfl

end Go.AM

end

section

/- One-way streets: the two checks. -/
namespace Go.AM
open Go.Proofs
variable {R : Type}
attribute [local simp] nx_eq nx_new nx_set blk_new blk_set asI_int asK_int asB_bool asP_ptr al_eq bx_eq len_slice onE_exit onE_ret onR_ret Value.cells cell_new cell_set rd_new rd_set off eq lt le ifB gv out ext20 ext21
/-! ### Plain: the arrows of streets -/
/-! ### A store -/
/-! ### The program's loop -/
theorem eqN {a b : Nat} : AM.eq (a : Int) (b : Int) = decide (a = b) := by
  by_cases h : a = b <;> simp [h] <;> omega

end Go.AM

end

section

/- A search tree: what holds while it grows. Plain. -/
namespace Go.AM
open Go.Proofs
abbrev TL := List (Nat × Int)

def nodesT (T : TL) : List Nat := T.map Prod.fst

theorem nodesT_app (T X : TL) : nodesT (T ++ X) = nodesT T ++ nodesT X := List.map_append ..

end Go.AM

end

section

/- Streets down a search tree, and up all others: strong where no edge is a bridge. And strong streets only there. Plain. -/
namespace Go.AM
open Go.Proofs
/-! ### A node's place and its parent -/
def numP : TL → Nat → Nat
  | [], _ => 0
  | y :: T, x => if y.1 = x then 0 else numP T x + 1

def parP : TL → Nat → Int
  | [], _ => 0
  | y :: T, x => if y.1 = x then y.2 else parP T x

theorem numP_at {T1 T2 : TL} {x : Nat} {p : Int} (h : x ∉ nodesT T1) : numP (T1 ++ (x, p) :: T2) x = T1.length := by
  induction T1 with
  | nil => simp [numP]
  | cons y T1 ih =>
    simp only [nodesT, List.map_cons, List.mem_cons, not_or] at h
    simp only [List.cons_append, numP, List.length_cons]
    rw [if_neg (fun e => h.1 e.symm), ih h.2]

theorem parP_at {T1 T2 : TL} {x : Nat} {p : Int} (h : x ∉ nodesT T1) : parP (T1 ++ (x, p) :: T2) x = p := by
  induction T1 with
  | nil => simp [parP]
  | cons y T1 ih =>
    simp only [nodesT, List.map_cons, List.mem_cons, not_or] at h
    simp only [List.cons_append, parP]
    rw [if_neg (fun e => h.1 e.symm), ih h.2]

theorem numP_ahead {T1 T2 : TL} {y : Nat} (h : y ∈ nodesT T1) : numP (T1 ++ T2) y < T1.length := by
  induction T1 with
  | nil => simp [nodesT] at h
  | cons z T1 ih =>
    simp only [List.cons_append, numP, List.length_cons]
    split
    · omega
    · rename_i hz
      simp only [nodesT, List.map_cons, List.mem_cons] at h
      rcases h with h | h
      · exact absurd h.symm hz
      · have := ih h; omega

theorem split_at {T : TL} {x : Nat} {q : Int} (h : (x, q) ∈ T) (hn : (nodesT T).Nodup) : ∃ T1 T2, T = T1 ++ (x, q) :: T2 ∧ x ∉ nodesT T1 := by
  obtain ⟨T1, T2, rfl⟩ := List.append_of_mem h
  refine ⟨T1, T2, rfl, fun hm => ?_⟩
  rw [nodesT_app, List.nodup_append] at hn
  exact hn.2.2 x hm x (by simp [nodesT]) rfl

theorem split_node {T : TL} {x : Nat} (h : x ∈ nodesT T) (hn : (nodesT T).Nodup) : ∃ T1 q T2, T = T1 ++ (x, q) :: T2 ∧ x ∉ nodesT T1 := by
  obtain ⟨⟨y, q⟩, hy, rfl⟩ := List.mem_map.1 h
  obtain ⟨T1, T2, h1, h2⟩ := split_at hy hn
  exact ⟨T1, q, T2, h1, h2⟩

section
variable {g : List Nat} {T : TL}
/-! ### The streets -/
end
/-! ### Strong streets only without bridges -/
end Go.AM

end

section

/- A shortest way: what holds while the search runs. Plain. -/
namespace Go.AM
open Go.Proofs
/-- What the search has seen, in order, each with the node ahead of it. -/
structure BW (g : List Nat) (a to W : Nat) (T : TL) : Prop where
  nodup : (nodesT T).Nodup
  root : ∃ T', T = (a, -1) :: T'
  lt : ∀ x ∈ nodesT T, x < g.length
  par : ∀ T1 u q T2, T = T1 ++ (u, q) :: T2 → T1 = [] ∨ ∃ p : Nat, q = (p : Int) ∧ p ∈ nodesT T1 ∧ adj g p u = true ∧ W.testBit u = true ∧ to.testBit p = false

/-- From a node up to the root. -/
inductive Up (T : TL) : Nat → List Nat → Prop
  | root {v : Nat} : (v, -1) ∈ T → Up T v [v]
  | step {v p : Nat} {l : List Nat} : (v, (p : Int)) ∈ T → Up T p l → Up T v (v :: l)

section
variable {g : List Nat} {a to W : Nat} {T : TL}
theorem BW.snoc (hg : GrB g) (h : BW g a to W T) {u v : Nat} (hv : v ∈ nodesT T) (hu : u ∉ nodesT T) (ha : adj g v u = true) (hW : W.testBit u = true) (ht : to.testBit v = false) : BW g a to W (T ++ [(u, (v : Int))]) := by
  have hn : nodesT (T ++ [(u, (v : Int))]) = nodesT T ++ [u] := by simp [nodesT]
  refine ⟨?_, ?_, ?_, ?_⟩
  · rw [hn, List.nodup_append]
    refine ⟨h.nodup, by simp, fun x hx y hy => ?_⟩
    rw [List.mem_singleton] at hy
    rintro rfl
    rw [hy] at hx
    exact hu hx
  · obtain ⟨T', rfl⟩ := h.root
    exact ⟨T' ++ [(u, (v : Int))], rfl⟩
  · intro x hx
    rw [hn, List.mem_append, List.mem_singleton] at hx
    rcases hx with hx | rfl
    · exact h.lt x hx
    · exact (hg.adj_lt ha).2
  · intro T1 u' q T2 he
    rcases List.eq_nil_or_concat T2 with rfl | ⟨T3, y, rfl⟩
    · obtain ⟨rfl, h2⟩ := List.append_inj' he rfl
      simp only [List.cons.injEq, Prod.mk.injEq, and_true] at h2
      obtain ⟨rfl, rfl⟩ := h2
      exact .inr ⟨v, rfl, hv, ha, hW, ht⟩
    · rw [List.concat_eq_append, ← List.cons_append, ← List.append_assoc] at he
      exact h.par T1 u' q T3 (List.append_inj' he rfl).1

theorem bw0 (hg : GrB g) (ha : a < g.length) : BW g a to W [(a, -1)] := by
  refine ⟨by simp [nodesT], ⟨[], rfl⟩, by simp [nodesT]; exact ha, fun T1 u q T2 he => ?_⟩
  cases T1 with
  | nil => exact .inl rfl
  | cons b T1 => simp at he

theorem BW.parP (h : BW g a to W T) {x : Nat} {q : Int} (hx : (x, q) ∈ T) : parP T x = q := by
  obtain ⟨T1, T2, rfl, h2⟩ := split_at hx h.nodup
  exact parP_at h2

/-- A node is the root, or has its parent earlier. -/
theorem BW.node (h : BW g a to W T) {v : Nat} (hv : v ∈ nodesT T) : (v = a ∧ (v, -1) ∈ T) ∨ ∃ p : Nat, (v, (p : Int)) ∈ T ∧ p ∈ nodesT T ∧ numP T p < numP T v ∧ adj g p v = true ∧ W.testBit v = true ∧ to.testBit p = false := by
  obtain ⟨T1, q, T2, rfl, h2⟩ := split_node hv h.nodup
  rcases h.par T1 v q T2 rfl with rfl | ⟨p, rfl, h3, h4, h5, h6⟩
  · obtain ⟨T', hT⟩ := h.root
    simp only [List.nil_append, List.cons.injEq, Prod.mk.injEq] at hT
    obtain ⟨⟨rfl, rfl⟩, _⟩ := hT
    exact .inl ⟨rfl, by simp⟩
  · refine .inr ⟨p, by simp, ?_, ?_, h4, h5, h6⟩
    · rw [nodesT_app]; exact List.mem_append_left _ h3
    · rw [numP_at h2]; exact numP_ahead h3

theorem BW.up (h : BW g a to W T) : ∀ (d v : Nat), v ∈ nodesT T → numP T v < d → ∃ l, Up T v l := by
  intro d
  induction d with
  | zero => intro v _ hd; omega
  | succ d ih =>
    intro v hv hd
    rcases h.node hv with ⟨_, h1⟩ | ⟨p, h1, h2, h3, _⟩
    · exact ⟨[v], .root h1⟩
    · obtain ⟨l, hl⟩ := ih p h2 (by omega)
      exact ⟨v :: l, .step h1 hl⟩

/-- A way from a node (the list's last one) to another (its first one): read backward. -/
structure WayB (g : List Nat) (a W to : Nat) (l : List Nat) : Prop where
  last : l.getLast? = some a
  nodup : l.Nodup
  lt : ∀ x ∈ l, x < g.length
  chain : ∀ i, i + 1 < l.length → adj g (nb l (i + 1)) (nb l i) = true
  inW : ∀ x ∈ l.dropLast, W.testBit x = true
  noTo : ∀ x ∈ l.tail, to.testBit x = false

theorem Up.way (h : BW g a to W T) {v : Nat} {l : List Nat} (hu : Up T v l) : WayB g a W to l ∧ l.head? = some v ∧ ∀ x ∈ l, x ∈ nodesT T ∧ numP T x ≤ numP T v := by
  induction hu with
  | @root v hv =>
    have hvn : v ∈ nodesT T := List.mem_map.2 ⟨_, hv, rfl⟩
    rcases h.node hvn with ⟨h1, _⟩ | ⟨p, h1, _⟩
    · subst h1
      refine ⟨⟨rfl, by simp, ?_, ?_, by simp, by simp⟩, rfl, ?_⟩
      · intro x hx; rw [List.mem_singleton] at hx; rw [hx]; exact h.lt v hvn
      · intro i hi; simp at hi
      · intro x hx; rw [List.mem_singleton] at hx; rw [hx]; exact ⟨hvn, Nat.le_refl _⟩
    · have e1 := h.parP hv
      rw [h.parP h1] at e1
      omega
  | @step v p l hv hl ih =>
    obtain ⟨w, hd, hle⟩ := ih
    have hvn : v ∈ nodesT T := List.mem_map.2 ⟨_, hv, rfl⟩
    rcases h.node hvn with ⟨_, h1⟩ | ⟨p', h1, h2, h3, h4, h5, h6⟩
    · have e1 := h.parP hv
      rw [h.parP h1] at e1
      omega
    · have e1 := h.parP hv
      rw [h.parP h1] at e1
      have := Int.natCast_inj.1 e1
      subst this
      have hne : l ≠ [] := by rintro rfl; simp at hd
      obtain ⟨y, l', rfl⟩ : ∃ y l', l = y :: l' := by
        cases l with
        | nil => exact absurd rfl hne
        | cons y l' => exact ⟨y, l', rfl⟩
      simp only [List.head?_cons, Option.some.injEq] at hd
      subst hd
      refine ⟨⟨?_, ?_, ?_, ?_, ?_, ?_⟩, rfl, ?_⟩
      · rw [List.getLast?_cons_cons]; exact w.last
      · rw [List.nodup_cons]
        refine ⟨fun hm => ?_, w.nodup⟩
        have := (hle v hm).2
        omega
      · intro x hx
        rw [List.mem_cons] at hx
        rcases hx with rfl | hx
        · exact h.lt _ hvn
        · exact w.lt x hx
      · intro i hi
        cases i with
        | zero => exact h4
        | succ i =>
          have := w.chain i (by simpa using hi)
          exact this
      · intro x hx
        rw [List.dropLast_cons_of_ne_nil (by simp), List.mem_cons] at hx
        rcases hx with rfl | hx
        · exact h5
        · exact w.inW x hx
      · intro x hx
        simp only [List.tail_cons, List.mem_cons] at hx
        rcases hx with rfl | hx
        · exact h6
        · exact w.noTo x hx
      · intro x hx
        rw [List.mem_cons] at hx
        rcases hx with rfl | hx
        · exact ⟨hvn, Nat.le_refl _⟩
        · have := hle x hx
          exact ⟨this.1, by omega⟩

/-- Where all that was seen has been gone on from, nothing else is reached. -/
theorem BW.closed (h : BW g a to W T) (hc : ∀ v ∈ nodesT T, ∀ u, adj g v u = true → W.testBit u = true → u ∈ nodesT T) {u : Nat} (hr : Rch g W a u) : u ∈ nodesT T := by
  induction hr with
  | base =>
    obtain ⟨T', rfl⟩ := h.root
    simp [nodesT]
  | step _ h2 h3 ih => exact hc _ ih _ h2 h3

end
end Go.AM

end
