/- Parts of the proof, put together: what the functions of the program answer, and plain laws. -/
import Derived.Test.YtakhklelgcfgjaaDoorAmSim
import Derived.Test.YtakhklelgcfgjaaDoorProg
import Derived.KernelRfl
import Derived.Test.YtakhklelgcfgjaaDoorAmIt

section

/- The seat's environment, what its types are, and calls in the end. -/
namespace Go.AM
open Go.Proofs
/-- The table by which the library finds the lowest bit. -/
def tab64 : List Int := [0, 1, 56, 2, 57, 49, 28, 3, 61, 58, 42, 50, 38, 29, 17, 4, 62, 47, 59, 36, 45, 43, 51, 22, 53, 39, 33, 30, 24, 18, 12, 5, 63, 55, 48, 27, 60, 41, 37, 16, 46, 35, 44, 21, 52, 32, 23, 11, 54, 26, 40, 15, 34, 20, 31, 10, 25, 14, 19, 9, 13, 8, 7, 6]

/-- Two package-level variables, of which one is read; the calls that are made by themselves. -/
def E0 : Env := ⟨2, fun g => if g = 1 then some (.row (tab64.map fun n => .int .u8 n) 5 false) else none, fun f => f == 20 || f == 106⟩

noncomputable abbrev rn : Rec := run Tryd.prog E0

variable {R : Type} {h : H} {b o : Nat} {v : Value}
theorem ag0 : aggT Tryd.prog 0 = some false := by kernel_rfl

theorem sz0 : size? Tryd.prog 0 = some 1 := by kernel_rfl

theorem d0 {K : Value → Option R} : ld Tryd.prog h 0 b o K = (h.cell b o).bind K := ld_scS ag0

theorem w0 {K : H → Option R} : st Tryd.prog h 0 b o v K = (wrc 1 h b o v).bind K := st_S sz0

theorem ag1 : aggT Tryd.prog 1 = some false := by kernel_rfl

theorem sz1 : size? Tryd.prog 1 = some 1 := by kernel_rfl

theorem d1 {K : Value → Option R} : ld Tryd.prog h 1 b o K = (h.cell b o).bind K := ld_scS ag1

theorem w1 {K : H → Option R} : st Tryd.prog h 1 b o v K = (wrc 1 h b o v).bind K := st_S sz1

theorem ag2 : aggT Tryd.prog 2 = some false := by kernel_rfl

theorem sz2 : size? Tryd.prog 2 = some 1 := by kernel_rfl

theorem d2 {K : Value → Option R} : ld Tryd.prog h 2 b o K = (h.cell b o).bind K := ld_scS ag2

theorem w2 {K : H → Option R} : st Tryd.prog h 2 b o v K = (wrc 1 h b o v).bind K := st_S sz2

theorem ag3 : aggT Tryd.prog 3 = some false := by kernel_rfl

theorem sz3 : size? Tryd.prog 3 = some 1 := by kernel_rfl

theorem d3 {K : Value → Option R} : ld Tryd.prog h 3 b o K = (h.cell b o).bind K := ld_scS ag3

theorem w3 {K : H → Option R} : st Tryd.prog h 3 b o v K = (wrc 1 h b o v).bind K := st_S sz3

theorem sz4 : size? Tryd.prog 4 = some 1 := by kernel_rfl

theorem w4 {K : H → Option R} : st Tryd.prog h 4 b o v K = (wrc 1 h b o v).bind K := st_S sz4

theorem sz5 : size? Tryd.prog 5 = some 1 := by kernel_rfl

theorem sz6 : size? Tryd.prog 6 = some 1 := by kernel_rfl

theorem w6 {K : H → Option R} : st Tryd.prog h 6 b o v K = (wrc 1 h b o v).bind K := st_S sz6

theorem sz10 : size? Tryd.prog 10 = some 1 := by kernel_rfl

theorem w10 {K : H → Option R} : st Tryd.prog h 10 b o v K = (wrc 1 h b o v).bind K := st_S sz10

theorem ag22 : aggT Tryd.prog 22 = some false := by kernel_rfl

theorem sz22 : size? Tryd.prog 22 = some 1 := by kernel_rfl

theorem d22 {K : Value → Option R} : ld Tryd.prog h 22 b o K = (h.cell b o).bind K := ld_scS ag22

theorem ag23 : aggT Tryd.prog 23 = some false := by kernel_rfl

theorem d23 {K : Value → Option R} : ld Tryd.prog h 23 b o K = (h.cell b o).bind K := ld_scS ag23

theorem sz30 : size? Tryd.prog 30 = some 1 := by kernel_rfl

theorem w30 {K : H → Option R} : st Tryd.prog h 30 b o v K = (wrc 1 h b o v).bind K := st_S sz30

theorem ag32 : aggT Tryd.prog 32 = some true := by kernel_rfl

theorem sz32 : size? Tryd.prog 32 = some 2 := by kernel_rfl

theorem d32 {K : Value → Option R} : ld Tryd.prog h 32 b o K = (h.rd b o 2).bind fun l => K (.agg l.toArray) := ld_agS ag32 sz32

theorem w32 {K : H → Option R} : st Tryd.prog h 32 b o v K = (wrc 2 h b o v).bind K := st_S sz32

theorem ag56 : aggT Tryd.prog 56 = some false := by kernel_rfl

theorem sz56 : size? Tryd.prog 56 = some 1 := by kernel_rfl

theorem d56 {K : Value → Option R} : ld Tryd.prog h 56 b o K = (h.cell b o).bind K := ld_scS ag56

theorem w56 {K : H → Option R} : st Tryd.prog h 56 b o v K = (wrc 1 h b o v).bind K := st_S sz56

theorem ag78 : aggT Tryd.prog 78 = some false := by kernel_rfl

theorem sz78 : size? Tryd.prog 78 = some 1 := by kernel_rfl

theorem d78 {K : Value → Option R} : ld Tryd.prog h 78 b o K = (h.cell b o).bind K := ld_scS ag78

theorem w78 {K : H → Option R} : st Tryd.prog h 78 b o v K = (wrc 1 h b o v).bind K := st_S sz78

theorem ag97 : aggT Tryd.prog 97 = some false := by kernel_rfl

theorem d97 {K : Value → Option R} : ld Tryd.prog h 97 b o K = (h.cell b o).bind K := ld_scS ag97

theorem ag102 : aggT Tryd.prog 102 = some false := by kernel_rfl

end Go.AM

end

section

/- The staged forms of functions 14, and what calls of these answer. -/
namespace Go.AM
open Go.Proofs
noncomputable def f14 (rec : Rec) (_k : Nat) (v0 : Value) (n0 : Int) (n1 : Int) (v1 : Value) (h0 : H) : Option (Value × H) :=
  calls rec h0 18 [v0] fun v2 h1 =>
  calls rec h1 42 [v2] fun v3 h2 =>
  ext v3 0 fun v4 =>
  ext v3 1 fun v5 =>
  asI .i64 v5 fun n2 =>
  calls rec h2 18 [v0] fun v6 h3 =>
  calls rec h3 24 [v6] fun v7 h4 =>
  ext v7 0 fun v8 =>
  asI .i64 v8 fun n3 =>
  ext v7 1 fun v9 =>
  asI .i64 v9 fun n4 =>
  ifB (not (eq n4 0)) (
    ifB (eq n2 2) (
      ifB (eq n4 2) (
        calls rec h4 20 [] fun v10 h5 =>
        asB v10 fun q0 =>
        some ((.bool q0), h5)) (
        some ((.bool false), h4))) (
      some ((.bool false), h4))) (
    len v0 fun n5 =>
    ifB (le 3 n5) (
      ifB (eq n3 0) (
        len v0 fun n6 =>
        nn n6 (
          calls rec h4 33 [v0, (.int .i64 (sub .i64 (shl .i64 1 n6) 1)), (.int .i64 0)] fun v11 h6 =>
          asI .i64 v11 fun n7 =>
          len v0 fun n8 =>
          nn n8 (
            eqv Tryd.prog 4 (.bool (eq n2 0)) (.bool (eq n7 (sub .i64 (shl .i64 1 n8) 1))) fun q1 =>
            ifB (not q1) (
              some ((.bool false), h6)) (
              ifB (not (eq n2 0)) (
                ifB (not (eq n2 5)) (
                  some ((.bool false), h6)) (
                  calls rec h6 18 [v0] fun v12 h7 =>
                  calls rec h7 55 [v1] fun v13 h8 =>
                  calls rec h8 54 [v12, v13] fun v14 h9 =>
                  ext v14 0 fun v15 =>
                  asB v15 fun q2 =>
                  ext v14 1 fun v16 =>
                  asI .i64 v16 fun n9 =>
                  ifB (not (eq n9 0)) (
                    some ((.bool false), h9)) (
                    ifB q2 (
                      ifB (not (eq n3 0)) (
                        some ((.bool false), h9)) (
                        ifB (eq n2 0) (
                          calls rec h9 18 [v0] fun v17 h10 =>
                          calls rec h10 54 [v17, v4] fun v18 h11 =>
                          ext v18 0 fun v19 =>
                          asB v19 fun q3 =>
                          ext v18 1 fun v20 =>
                          asI .i64 v20 fun n10 =>
                          ifB (not q3) (
                            some ((.bool false), h11)) (
                            ifB (not (eq n10 0)) (
                              some ((.bool false), h11)) (
                              calls rec h11 38 [v0, (.int .i64 n0)] fun v21 h12 =>
                              asB v21 fun q4 =>
                              ifB (not q4) (
                                calls rec h12 20 [] fun v22 h13 =>
                                asB v22 fun q5 =>
                                some ((.bool q5), h13)) (
                                calls rec h12 38 [v0, (.int .i64 n1)] fun v23 h14 =>
                                asB v23 fun q6 =>
                                ifB (not q6) (
                                  calls rec h14 20 [] fun v24 h15 =>
                                  asB v24 fun q7 =>
                                  some ((.bool q7), h15)) (
                                  six v0 n0 1 fun b0 b1 =>
                                  ld Tryd.prog h14 3 b0 b1 fun v25 =>
                                  asI .i64 v25 fun n11 =>
                                  nn n1 (
                                    ifB (eq (and .i64 (shr .i64 n11 n1) 1) 0) (
                                      calls rec h14 20 [] fun v26 h16 =>
                                      asB v26 fun q8 =>
                                      some ((.bool q8), h16)) (
                                      calls rec h14 18 [v0] fun v27 h17 =>
                                      calls rec h17 34 [v27, (.int .i64 n0), (.int .i64 n1)] fun v28 h18 =>
                                      ext v28 0 fun v29 =>
                                      ext v28 1 fun v30 =>
                                      asI .i64 v30 fun n12 =>
                                      ifB (not (eq n7 (sub .i64 (shl .i64 1 n8) 1))) (
                                        ifB (eq n12 5) (
                                          calls rec h18 20 [] fun v31 h19 =>
                                          asB v31 fun q9 =>
                                          some ((.bool q9), h19)) (
                                          some ((.bool false), h18))) (
                                        calls rec h18 18 [v0] fun v32 h20 =>
                                        calls rec h20 35 [v32, v29] fun v33 h21 =>
                                        ext v33 0 fun v34 =>
                                        asB v34 fun q10 =>
                                        ext v33 1 fun v35 =>
                                        asI .i64 v35 fun n13 =>
                                        ifB (eq n12 0) (
                                          ifB q10 (
                                            ifB (eq n13 0) (
                                              len v29 fun n14 =>
                                              len v0 fun n15 =>
                                              ifB (eq n14 n15) (
                                                six v29 0 1 fun b2 b3 =>
                                                ld Tryd.prog h21 3 b2 b3 fun v36 =>
                                                asI .i64 v36 fun n16 =>
                                                ifB (eq n16 n0) (
                                                  len v29 fun n17 =>
                                                  six v29 (sub .i64 n17 1) 1 fun b4 b5 =>
                                                  ld Tryd.prog h21 3 b4 b5 fun v37 =>
                                                  asI .i64 v37 fun n18 =>
                                                  ifB (eq n18 n1) (
                                                    calls rec h21 20 [] fun v38 h22 =>
                                                    asB v38 fun q11 =>
                                                    some ((.bool q11), h22)) (
                                                    some ((.bool false), h21))) (
                                                  some ((.bool false), h21))) (
                                                some ((.bool false), h21))) (
                                              some ((.bool false), h21))) (
                                            some ((.bool false), h21))) (
                                          some ((.bool false), h21)))))))))) (
                          calls rec h9 38 [v0, (.int .i64 n0)] fun v39 h23 =>
                          asB v39 fun q12 =>
                          ifB (not q12) (
                            calls rec h23 20 [] fun v40 h24 =>
                            asB v40 fun q13 =>
                            some ((.bool q13), h24)) (
                            calls rec h23 38 [v0, (.int .i64 n1)] fun v41 h25 =>
                            asB v41 fun q14 =>
                            ifB (not q14) (
                              calls rec h25 20 [] fun v42 h26 =>
                              asB v42 fun q15 =>
                              some ((.bool q15), h26)) (
                              six v0 n0 1 fun b6 b7 =>
                              ld Tryd.prog h25 3 b6 b7 fun v43 =>
                              asI .i64 v43 fun n19 =>
                              nn n1 (
                                ifB (eq (and .i64 (shr .i64 n19 n1) 1) 0) (
                                  calls rec h25 20 [] fun v44 h27 =>
                                  asB v44 fun q16 =>
                                  some ((.bool q16), h27)) (
                                  calls rec h25 18 [v0] fun v45 h28 =>
                                  calls rec h28 34 [v45, (.int .i64 n0), (.int .i64 n1)] fun v46 h29 =>
                                  ext v46 0 fun v47 =>
                                  ext v46 1 fun v48 =>
                                  asI .i64 v48 fun n20 =>
                                  ifB (not (eq n7 (sub .i64 (shl .i64 1 n8) 1))) (
                                    ifB (eq n20 5) (
                                      calls rec h29 20 [] fun v49 h30 =>
                                      asB v49 fun q17 =>
                                      some ((.bool q17), h30)) (
                                      some ((.bool false), h29))) (
                                    calls rec h29 18 [v0] fun v50 h31 =>
                                    calls rec h31 35 [v50, v47] fun v51 h32 =>
                                    ext v51 0 fun v52 =>
                                    asB v52 fun q18 =>
                                    ext v51 1 fun v53 =>
                                    asI .i64 v53 fun n21 =>
                                    ifB (eq n20 0) (
                                      ifB q18 (
                                        ifB (eq n21 0) (
                                          len v47 fun n22 =>
                                          len v0 fun n23 =>
                                          ifB (eq n22 n23) (
                                            six v47 0 1 fun b8 b9 =>
                                            ld Tryd.prog h32 3 b8 b9 fun v54 =>
                                            asI .i64 v54 fun n24 =>
                                            ifB (eq n24 n0) (
                                              len v47 fun n25 =>
                                              six v47 (sub .i64 n25 1) 1 fun b10 b11 =>
                                              ld Tryd.prog h32 3 b10 b11 fun v55 =>
                                              asI .i64 v55 fun n26 =>
                                              ifB (eq n26 n1) (
                                                calls rec h32 20 [] fun v56 h33 =>
                                                asB v56 fun q19 =>
                                                some ((.bool q19), h33)) (
                                                some ((.bool false), h32))) (
                                              some ((.bool false), h32))) (
                                            some ((.bool false), h32))) (
                                          some ((.bool false), h32))) (
                                        some ((.bool false), h32))) (
                                      some ((.bool false), h32)))))))))) (
                      ifB (eq n2 0) (
                        calls rec h9 18 [v0] fun v57 h34 =>
                        calls rec h34 54 [v57, v4] fun v58 h35 =>
                        ext v58 0 fun v59 =>
                        asB v59 fun q20 =>
                        ext v58 1 fun v60 =>
                        asI .i64 v60 fun n27 =>
                        ifB (not q20) (
                          some ((.bool false), h35)) (
                          ifB (not (eq n27 0)) (
                            some ((.bool false), h35)) (
                            calls rec h35 38 [v0, (.int .i64 n0)] fun v61 h36 =>
                            asB v61 fun q21 =>
                            ifB (not q21) (
                              calls rec h36 20 [] fun v62 h37 =>
                              asB v62 fun q22 =>
                              some ((.bool q22), h37)) (
                              calls rec h36 38 [v0, (.int .i64 n1)] fun v63 h38 =>
                              asB v63 fun q23 =>
                              ifB (not q23) (
                                calls rec h38 20 [] fun v64 h39 =>
                                asB v64 fun q24 =>
                                some ((.bool q24), h39)) (
                                six v0 n0 1 fun b12 b13 =>
                                ld Tryd.prog h38 3 b12 b13 fun v65 =>
                                asI .i64 v65 fun n28 =>
                                nn n1 (
                                  ifB (eq (and .i64 (shr .i64 n28 n1) 1) 0) (
                                    calls rec h38 20 [] fun v66 h40 =>
                                    asB v66 fun q25 =>
                                    some ((.bool q25), h40)) (
                                    calls rec h38 18 [v0] fun v67 h41 =>
                                    calls rec h41 34 [v67, (.int .i64 n0), (.int .i64 n1)] fun v68 h42 =>
                                    ext v68 0 fun v69 =>
                                    ext v68 1 fun v70 =>
                                    asI .i64 v70 fun n29 =>
                                    ifB (not (eq n7 (sub .i64 (shl .i64 1 n8) 1))) (
                                      ifB (eq n29 5) (
                                        calls rec h42 20 [] fun v71 h43 =>
                                        asB v71 fun q26 =>
                                        some ((.bool q26), h43)) (
                                        some ((.bool false), h42))) (
                                      calls rec h42 18 [v0] fun v72 h44 =>
                                      calls rec h44 35 [v72, v69] fun v73 h45 =>
                                      ext v73 0 fun v74 =>
                                      asB v74 fun q27 =>
                                      ext v73 1 fun v75 =>
                                      asI .i64 v75 fun n30 =>
                                      ifB (eq n29 0) (
                                        ifB q27 (
                                          ifB (eq n30 0) (
                                            len v69 fun n31 =>
                                            len v0 fun n32 =>
                                            ifB (eq n31 n32) (
                                              six v69 0 1 fun b14 b15 =>
                                              ld Tryd.prog h45 3 b14 b15 fun v76 =>
                                              asI .i64 v76 fun n33 =>
                                              ifB (eq n33 n0) (
                                                len v69 fun n34 =>
                                                six v69 (sub .i64 n34 1) 1 fun b16 b17 =>
                                                ld Tryd.prog h45 3 b16 b17 fun v77 =>
                                                asI .i64 v77 fun n35 =>
                                                ifB (eq n35 n1) (
                                                  calls rec h45 20 [] fun v78 h46 =>
                                                  asB v78 fun q28 =>
                                                  some ((.bool q28), h46)) (
                                                  some ((.bool false), h45))) (
                                                some ((.bool false), h45))) (
                                              some ((.bool false), h45))) (
                                            some ((.bool false), h45))) (
                                          some ((.bool false), h45))) (
                                        some ((.bool false), h45)))))))))) (
                        calls rec h9 38 [v0, (.int .i64 n0)] fun v79 h47 =>
                        asB v79 fun q29 =>
                        ifB (not q29) (
                          calls rec h47 20 [] fun v80 h48 =>
                          asB v80 fun q30 =>
                          some ((.bool q30), h48)) (
                          calls rec h47 38 [v0, (.int .i64 n1)] fun v81 h49 =>
                          asB v81 fun q31 =>
                          ifB (not q31) (
                            calls rec h49 20 [] fun v82 h50 =>
                            asB v82 fun q32 =>
                            some ((.bool q32), h50)) (
                            six v0 n0 1 fun b18 b19 =>
                            ld Tryd.prog h49 3 b18 b19 fun v83 =>
                            asI .i64 v83 fun n36 =>
                            nn n1 (
                              ifB (eq (and .i64 (shr .i64 n36 n1) 1) 0) (
                                calls rec h49 20 [] fun v84 h51 =>
                                asB v84 fun q33 =>
                                some ((.bool q33), h51)) (
                                calls rec h49 18 [v0] fun v85 h52 =>
                                calls rec h52 34 [v85, (.int .i64 n0), (.int .i64 n1)] fun v86 h53 =>
                                ext v86 0 fun v87 =>
                                ext v86 1 fun v88 =>
                                asI .i64 v88 fun n37 =>
                                ifB (not (eq n7 (sub .i64 (shl .i64 1 n8) 1))) (
                                  ifB (eq n37 5) (
                                    calls rec h53 20 [] fun v89 h54 =>
                                    asB v89 fun q34 =>
                                    some ((.bool q34), h54)) (
                                    some ((.bool false), h53))) (
                                  calls rec h53 18 [v0] fun v90 h55 =>
                                  calls rec h55 35 [v90, v87] fun v91 h56 =>
                                  ext v91 0 fun v92 =>
                                  asB v92 fun q35 =>
                                  ext v91 1 fun v93 =>
                                  asI .i64 v93 fun n38 =>
                                  ifB (eq n37 0) (
                                    ifB q35 (
                                      ifB (eq n38 0) (
                                        len v87 fun n39 =>
                                        len v0 fun n40 =>
                                        ifB (eq n39 n40) (
                                          six v87 0 1 fun b20 b21 =>
                                          ld Tryd.prog h56 3 b20 b21 fun v94 =>
                                          asI .i64 v94 fun n41 =>
                                          ifB (eq n41 n0) (
                                            len v87 fun n42 =>
                                            six v87 (sub .i64 n42 1) 1 fun b22 b23 =>
                                            ld Tryd.prog h56 3 b22 b23 fun v95 =>
                                            asI .i64 v95 fun n43 =>
                                            ifB (eq n43 n1) (
                                              calls rec h56 20 [] fun v96 h57 =>
                                              asB v96 fun q36 =>
                                              some ((.bool q36), h57)) (
                                              some ((.bool false), h56))) (
                                            some ((.bool false), h56))) (
                                          some ((.bool false), h56))) (
                                        some ((.bool false), h56))) (
                                      some ((.bool false), h56))) (
                                    some ((.bool false), h56)))))))))))) (
                calls rec h6 18 [v0] fun v97 h58 =>
                calls rec h58 55 [v1] fun v98 h59 =>
                calls rec h59 54 [v97, v98] fun v99 h60 =>
                ext v99 0 fun v100 =>
                asB v100 fun q37 =>
                ext v99 1 fun v101 =>
                asI .i64 v101 fun n44 =>
                ifB (not (eq n44 0)) (
                  some ((.bool false), h60)) (
                  ifB q37 (
                    ifB (not (eq n3 0)) (
                      some ((.bool false), h60)) (
                      ifB (eq n2 0) (
                        calls rec h60 18 [v0] fun v102 h61 =>
                        calls rec h61 54 [v102, v4] fun v103 h62 =>
                        ext v103 0 fun v104 =>
                        asB v104 fun q38 =>
                        ext v103 1 fun v105 =>
                        asI .i64 v105 fun n45 =>
                        ifB (not q38) (
                          some ((.bool false), h62)) (
                          ifB (not (eq n45 0)) (
                            some ((.bool false), h62)) (
                            calls rec h62 38 [v0, (.int .i64 n0)] fun v106 h63 =>
                            asB v106 fun q39 =>
                            ifB (not q39) (
                              calls rec h63 20 [] fun v107 h64 =>
                              asB v107 fun q40 =>
                              some ((.bool q40), h64)) (
                              calls rec h63 38 [v0, (.int .i64 n1)] fun v108 h65 =>
                              asB v108 fun q41 =>
                              ifB (not q41) (
                                calls rec h65 20 [] fun v109 h66 =>
                                asB v109 fun q42 =>
                                some ((.bool q42), h66)) (
                                six v0 n0 1 fun b24 b25 =>
                                ld Tryd.prog h65 3 b24 b25 fun v110 =>
                                asI .i64 v110 fun n46 =>
                                nn n1 (
                                  ifB (eq (and .i64 (shr .i64 n46 n1) 1) 0) (
                                    calls rec h65 20 [] fun v111 h67 =>
                                    asB v111 fun q43 =>
                                    some ((.bool q43), h67)) (
                                    calls rec h65 18 [v0] fun v112 h68 =>
                                    calls rec h68 34 [v112, (.int .i64 n0), (.int .i64 n1)] fun v113 h69 =>
                                    ext v113 0 fun v114 =>
                                    ext v113 1 fun v115 =>
                                    asI .i64 v115 fun n47 =>
                                    ifB (not (eq n7 (sub .i64 (shl .i64 1 n8) 1))) (
                                      ifB (eq n47 5) (
                                        calls rec h69 20 [] fun v116 h70 =>
                                        asB v116 fun q44 =>
                                        some ((.bool q44), h70)) (
                                        some ((.bool false), h69))) (
                                      calls rec h69 18 [v0] fun v117 h71 =>
                                      calls rec h71 35 [v117, v114] fun v118 h72 =>
                                      ext v118 0 fun v119 =>
                                      asB v119 fun q45 =>
                                      ext v118 1 fun v120 =>
                                      asI .i64 v120 fun n48 =>
                                      ifB (eq n47 0) (
                                        ifB q45 (
                                          ifB (eq n48 0) (
                                            len v114 fun n49 =>
                                            len v0 fun n50 =>
                                            ifB (eq n49 n50) (
                                              six v114 0 1 fun b26 b27 =>
                                              ld Tryd.prog h72 3 b26 b27 fun v121 =>
                                              asI .i64 v121 fun n51 =>
                                              ifB (eq n51 n0) (
                                                len v114 fun n52 =>
                                                six v114 (sub .i64 n52 1) 1 fun b28 b29 =>
                                                ld Tryd.prog h72 3 b28 b29 fun v122 =>
                                                asI .i64 v122 fun n53 =>
                                                ifB (eq n53 n1) (
                                                  calls rec h72 20 [] fun v123 h73 =>
                                                  asB v123 fun q46 =>
                                                  some ((.bool q46), h73)) (
                                                  some ((.bool false), h72))) (
                                                some ((.bool false), h72))) (
                                              some ((.bool false), h72))) (
                                            some ((.bool false), h72))) (
                                          some ((.bool false), h72))) (
                                        some ((.bool false), h72)))))))))) (
                        calls rec h60 38 [v0, (.int .i64 n0)] fun v124 h74 =>
                        asB v124 fun q47 =>
                        ifB (not q47) (
                          calls rec h74 20 [] fun v125 h75 =>
                          asB v125 fun q48 =>
                          some ((.bool q48), h75)) (
                          calls rec h74 38 [v0, (.int .i64 n1)] fun v126 h76 =>
                          asB v126 fun q49 =>
                          ifB (not q49) (
                            calls rec h76 20 [] fun v127 h77 =>
                            asB v127 fun q50 =>
                            some ((.bool q50), h77)) (
                            six v0 n0 1 fun b30 b31 =>
                            ld Tryd.prog h76 3 b30 b31 fun v128 =>
                            asI .i64 v128 fun n54 =>
                            nn n1 (
                              ifB (eq (and .i64 (shr .i64 n54 n1) 1) 0) (
                                calls rec h76 20 [] fun v129 h78 =>
                                asB v129 fun q51 =>
                                some ((.bool q51), h78)) (
                                calls rec h76 18 [v0] fun v130 h79 =>
                                calls rec h79 34 [v130, (.int .i64 n0), (.int .i64 n1)] fun v131 h80 =>
                                ext v131 0 fun v132 =>
                                ext v131 1 fun v133 =>
                                asI .i64 v133 fun n55 =>
                                ifB (not (eq n7 (sub .i64 (shl .i64 1 n8) 1))) (
                                  ifB (eq n55 5) (
                                    calls rec h80 20 [] fun v134 h81 =>
                                    asB v134 fun q52 =>
                                    some ((.bool q52), h81)) (
                                    some ((.bool false), h80))) (
                                  calls rec h80 18 [v0] fun v135 h82 =>
                                  calls rec h82 35 [v135, v132] fun v136 h83 =>
                                  ext v136 0 fun v137 =>
                                  asB v137 fun q53 =>
                                  ext v136 1 fun v138 =>
                                  asI .i64 v138 fun n56 =>
                                  ifB (eq n55 0) (
                                    ifB q53 (
                                      ifB (eq n56 0) (
                                        len v132 fun n57 =>
                                        len v0 fun n58 =>
                                        ifB (eq n57 n58) (
                                          six v132 0 1 fun b32 b33 =>
                                          ld Tryd.prog h83 3 b32 b33 fun v139 =>
                                          asI .i64 v139 fun n59 =>
                                          ifB (eq n59 n0) (
                                            len v132 fun n60 =>
                                            six v132 (sub .i64 n60 1) 1 fun b34 b35 =>
                                            ld Tryd.prog h83 3 b34 b35 fun v140 =>
                                            asI .i64 v140 fun n61 =>
                                            ifB (eq n61 n1) (
                                              calls rec h83 20 [] fun v141 h84 =>
                                              asB v141 fun q54 =>
                                              some ((.bool q54), h84)) (
                                              some ((.bool false), h83))) (
                                            some ((.bool false), h83))) (
                                          some ((.bool false), h83))) (
                                        some ((.bool false), h83))) (
                                      some ((.bool false), h83))) (
                                    some ((.bool false), h83)))))))))) (
                    ifB (eq n2 0) (
                      calls rec h60 18 [v0] fun v142 h85 =>
                      calls rec h85 54 [v142, v4] fun v143 h86 =>
                      ext v143 0 fun v144 =>
                      asB v144 fun q55 =>
                      ext v143 1 fun v145 =>
                      asI .i64 v145 fun n62 =>
                      ifB (not q55) (
                        some ((.bool false), h86)) (
                        ifB (not (eq n62 0)) (
                          some ((.bool false), h86)) (
                          calls rec h86 38 [v0, (.int .i64 n0)] fun v146 h87 =>
                          asB v146 fun q56 =>
                          ifB (not q56) (
                            calls rec h87 20 [] fun v147 h88 =>
                            asB v147 fun q57 =>
                            some ((.bool q57), h88)) (
                            calls rec h87 38 [v0, (.int .i64 n1)] fun v148 h89 =>
                            asB v148 fun q58 =>
                            ifB (not q58) (
                              calls rec h89 20 [] fun v149 h90 =>
                              asB v149 fun q59 =>
                              some ((.bool q59), h90)) (
                              six v0 n0 1 fun b36 b37 =>
                              ld Tryd.prog h89 3 b36 b37 fun v150 =>
                              asI .i64 v150 fun n63 =>
                              nn n1 (
                                ifB (eq (and .i64 (shr .i64 n63 n1) 1) 0) (
                                  calls rec h89 20 [] fun v151 h91 =>
                                  asB v151 fun q60 =>
                                  some ((.bool q60), h91)) (
                                  calls rec h89 18 [v0] fun v152 h92 =>
                                  calls rec h92 34 [v152, (.int .i64 n0), (.int .i64 n1)] fun v153 h93 =>
                                  ext v153 0 fun v154 =>
                                  ext v153 1 fun v155 =>
                                  asI .i64 v155 fun n64 =>
                                  ifB (not (eq n7 (sub .i64 (shl .i64 1 n8) 1))) (
                                    ifB (eq n64 5) (
                                      calls rec h93 20 [] fun v156 h94 =>
                                      asB v156 fun q61 =>
                                      some ((.bool q61), h94)) (
                                      some ((.bool false), h93))) (
                                    calls rec h93 18 [v0] fun v157 h95 =>
                                    calls rec h95 35 [v157, v154] fun v158 h96 =>
                                    ext v158 0 fun v159 =>
                                    asB v159 fun q62 =>
                                    ext v158 1 fun v160 =>
                                    asI .i64 v160 fun n65 =>
                                    ifB (eq n64 0) (
                                      ifB q62 (
                                        ifB (eq n65 0) (
                                          len v154 fun n66 =>
                                          len v0 fun n67 =>
                                          ifB (eq n66 n67) (
                                            six v154 0 1 fun b38 b39 =>
                                            ld Tryd.prog h96 3 b38 b39 fun v161 =>
                                            asI .i64 v161 fun n68 =>
                                            ifB (eq n68 n0) (
                                              len v154 fun n69 =>
                                              six v154 (sub .i64 n69 1) 1 fun b40 b41 =>
                                              ld Tryd.prog h96 3 b40 b41 fun v162 =>
                                              asI .i64 v162 fun n70 =>
                                              ifB (eq n70 n1) (
                                                calls rec h96 20 [] fun v163 h97 =>
                                                asB v163 fun q63 =>
                                                some ((.bool q63), h97)) (
                                                some ((.bool false), h96))) (
                                              some ((.bool false), h96))) (
                                            some ((.bool false), h96))) (
                                          some ((.bool false), h96))) (
                                        some ((.bool false), h96))) (
                                      some ((.bool false), h96)))))))))) (
                      calls rec h60 38 [v0, (.int .i64 n0)] fun v164 h98 =>
                      asB v164 fun q64 =>
                      ifB (not q64) (
                        calls rec h98 20 [] fun v165 h99 =>
                        asB v165 fun q65 =>
                        some ((.bool q65), h99)) (
                        calls rec h98 38 [v0, (.int .i64 n1)] fun v166 h100 =>
                        asB v166 fun q66 =>
                        ifB (not q66) (
                          calls rec h100 20 [] fun v167 h101 =>
                          asB v167 fun q67 =>
                          some ((.bool q67), h101)) (
                          six v0 n0 1 fun b42 b43 =>
                          ld Tryd.prog h100 3 b42 b43 fun v168 =>
                          asI .i64 v168 fun n71 =>
                          nn n1 (
                            ifB (eq (and .i64 (shr .i64 n71 n1) 1) 0) (
                              calls rec h100 20 [] fun v169 h102 =>
                              asB v169 fun q68 =>
                              some ((.bool q68), h102)) (
                              calls rec h100 18 [v0] fun v170 h103 =>
                              calls rec h103 34 [v170, (.int .i64 n0), (.int .i64 n1)] fun v171 h104 =>
                              ext v171 0 fun v172 =>
                              ext v171 1 fun v173 =>
                              asI .i64 v173 fun n72 =>
                              ifB (not (eq n7 (sub .i64 (shl .i64 1 n8) 1))) (
                                ifB (eq n72 5) (
                                  calls rec h104 20 [] fun v174 h105 =>
                                  asB v174 fun q69 =>
                                  some ((.bool q69), h105)) (
                                  some ((.bool false), h104))) (
                                calls rec h104 18 [v0] fun v175 h106 =>
                                calls rec h106 35 [v175, v172] fun v176 h107 =>
                                ext v176 0 fun v177 =>
                                asB v177 fun q70 =>
                                ext v176 1 fun v178 =>
                                asI .i64 v178 fun n73 =>
                                ifB (eq n72 0) (
                                  ifB q70 (
                                    ifB (eq n73 0) (
                                      len v172 fun n74 =>
                                      len v0 fun n75 =>
                                      ifB (eq n74 n75) (
                                        six v172 0 1 fun b44 b45 =>
                                        ld Tryd.prog h107 3 b44 b45 fun v179 =>
                                        asI .i64 v179 fun n76 =>
                                        ifB (eq n76 n0) (
                                          len v172 fun n77 =>
                                          six v172 (sub .i64 n77 1) 1 fun b46 b47 =>
                                          ld Tryd.prog h107 3 b46 b47 fun v180 =>
                                          asI .i64 v180 fun n78 =>
                                          ifB (eq n78 n1) (
                                            calls rec h107 20 [] fun v181 h108 =>
                                            asB v181 fun q71 =>
                                            some ((.bool q71), h108)) (
                                            some ((.bool false), h107))) (
                                          some ((.bool false), h107))) (
                                        some ((.bool false), h107))) (
                                      some ((.bool false), h107))) (
                                    some ((.bool false), h107))) (
                                  some ((.bool false), h107))))))))))))))) (
        eqv Tryd.prog 4 (.bool (eq n2 0)) (.bool false) fun q72 =>
        ifB (not q72) (
          some ((.bool false), h4)) (
          ifB (not (eq n2 0)) (
            ifB (not (eq n2 5)) (
              some ((.bool false), h4)) (
              calls rec h4 18 [v0] fun v182 h109 =>
              calls rec h109 55 [v1] fun v183 h110 =>
              calls rec h110 54 [v182, v183] fun v184 h111 =>
              ext v184 0 fun v185 =>
              asB v185 fun q73 =>
              ext v184 1 fun v186 =>
              asI .i64 v186 fun n79 =>
              ifB (not (eq n79 0)) (
                some ((.bool false), h111)) (
                ifB q73 (
                  ifB (not (eq n3 0)) (
                    some ((.bool false), h111)) (
                    ifB (eq n2 0) (
                      calls rec h111 18 [v0] fun v187 h112 =>
                      calls rec h112 54 [v187, v4] fun v188 h113 =>
                      ext v188 0 fun v189 =>
                      asB v189 fun q74 =>
                      ext v188 1 fun v190 =>
                      asI .i64 v190 fun n80 =>
                      ifB (not q74) (
                        some ((.bool false), h113)) (
                        ifB (not (eq n80 0)) (
                          some ((.bool false), h113)) (
                          calls rec h113 38 [v0, (.int .i64 n0)] fun v191 h114 =>
                          asB v191 fun q75 =>
                          ifB (not q75) (
                            calls rec h114 20 [] fun v192 h115 =>
                            asB v192 fun q76 =>
                            some ((.bool q76), h115)) (
                            calls rec h114 38 [v0, (.int .i64 n1)] fun v193 h116 =>
                            asB v193 fun q77 =>
                            ifB (not q77) (
                              calls rec h116 20 [] fun v194 h117 =>
                              asB v194 fun q78 =>
                              some ((.bool q78), h117)) (
                              six v0 n0 1 fun b48 b49 =>
                              ld Tryd.prog h116 3 b48 b49 fun v195 =>
                              asI .i64 v195 fun n81 =>
                              nn n1 (
                                ifB (eq (and .i64 (shr .i64 n81 n1) 1) 0) (
                                  calls rec h116 20 [] fun v196 h118 =>
                                  asB v196 fun q79 =>
                                  some ((.bool q79), h118)) (
                                  calls rec h116 18 [v0] fun v197 h119 =>
                                  calls rec h119 34 [v197, (.int .i64 n0), (.int .i64 n1)] fun v198 h120 =>
                                  ext v198 0 fun _ =>
                                  ext v198 1 fun v200 =>
                                  asI .i64 v200 fun n82 =>
                                  ifB (eq n82 5) (
                                    calls rec h120 20 [] fun v201 h121 =>
                                    asB v201 fun q80 =>
                                    some ((.bool q80), h121)) (
                                    some ((.bool false), h120))))))))) (
                      calls rec h111 38 [v0, (.int .i64 n0)] fun v202 h122 =>
                      asB v202 fun q81 =>
                      ifB (not q81) (
                        calls rec h122 20 [] fun v203 h123 =>
                        asB v203 fun q82 =>
                        some ((.bool q82), h123)) (
                        calls rec h122 38 [v0, (.int .i64 n1)] fun v204 h124 =>
                        asB v204 fun q83 =>
                        ifB (not q83) (
                          calls rec h124 20 [] fun v205 h125 =>
                          asB v205 fun q84 =>
                          some ((.bool q84), h125)) (
                          six v0 n0 1 fun b50 b51 =>
                          ld Tryd.prog h124 3 b50 b51 fun v206 =>
                          asI .i64 v206 fun n83 =>
                          nn n1 (
                            ifB (eq (and .i64 (shr .i64 n83 n1) 1) 0) (
                              calls rec h124 20 [] fun v207 h126 =>
                              asB v207 fun q85 =>
                              some ((.bool q85), h126)) (
                              calls rec h124 18 [v0] fun v208 h127 =>
                              calls rec h127 34 [v208, (.int .i64 n0), (.int .i64 n1)] fun v209 h128 =>
                              ext v209 0 fun _ =>
                              ext v209 1 fun v211 =>
                              asI .i64 v211 fun n84 =>
                              ifB (eq n84 5) (
                                calls rec h128 20 [] fun v212 h129 =>
                                asB v212 fun q86 =>
                                some ((.bool q86), h129)) (
                                some ((.bool false), h128))))))))) (
                  ifB (eq n2 0) (
                    calls rec h111 18 [v0] fun v213 h130 =>
                    calls rec h130 54 [v213, v4] fun v214 h131 =>
                    ext v214 0 fun v215 =>
                    asB v215 fun q87 =>
                    ext v214 1 fun v216 =>
                    asI .i64 v216 fun n85 =>
                    ifB (not q87) (
                      some ((.bool false), h131)) (
                      ifB (not (eq n85 0)) (
                        some ((.bool false), h131)) (
                        calls rec h131 38 [v0, (.int .i64 n0)] fun v217 h132 =>
                        asB v217 fun q88 =>
                        ifB (not q88) (
                          calls rec h132 20 [] fun v218 h133 =>
                          asB v218 fun q89 =>
                          some ((.bool q89), h133)) (
                          calls rec h132 38 [v0, (.int .i64 n1)] fun v219 h134 =>
                          asB v219 fun q90 =>
                          ifB (not q90) (
                            calls rec h134 20 [] fun v220 h135 =>
                            asB v220 fun q91 =>
                            some ((.bool q91), h135)) (
                            six v0 n0 1 fun b52 b53 =>
                            ld Tryd.prog h134 3 b52 b53 fun v221 =>
                            asI .i64 v221 fun n86 =>
                            nn n1 (
                              ifB (eq (and .i64 (shr .i64 n86 n1) 1) 0) (
                                calls rec h134 20 [] fun v222 h136 =>
                                asB v222 fun q92 =>
                                some ((.bool q92), h136)) (
                                calls rec h134 18 [v0] fun v223 h137 =>
                                calls rec h137 34 [v223, (.int .i64 n0), (.int .i64 n1)] fun v224 h138 =>
                                ext v224 0 fun _ =>
                                ext v224 1 fun v226 =>
                                asI .i64 v226 fun n87 =>
                                ifB (eq n87 5) (
                                  calls rec h138 20 [] fun v227 h139 =>
                                  asB v227 fun q93 =>
                                  some ((.bool q93), h139)) (
                                  some ((.bool false), h138))))))))) (
                    calls rec h111 38 [v0, (.int .i64 n0)] fun v228 h140 =>
                    asB v228 fun q94 =>
                    ifB (not q94) (
                      calls rec h140 20 [] fun v229 h141 =>
                      asB v229 fun q95 =>
                      some ((.bool q95), h141)) (
                      calls rec h140 38 [v0, (.int .i64 n1)] fun v230 h142 =>
                      asB v230 fun q96 =>
                      ifB (not q96) (
                        calls rec h142 20 [] fun v231 h143 =>
                        asB v231 fun q97 =>
                        some ((.bool q97), h143)) (
                        six v0 n0 1 fun b54 b55 =>
                        ld Tryd.prog h142 3 b54 b55 fun v232 =>
                        asI .i64 v232 fun n88 =>
                        nn n1 (
                          ifB (eq (and .i64 (shr .i64 n88 n1) 1) 0) (
                            calls rec h142 20 [] fun v233 h144 =>
                            asB v233 fun q98 =>
                            some ((.bool q98), h144)) (
                            calls rec h142 18 [v0] fun v234 h145 =>
                            calls rec h145 34 [v234, (.int .i64 n0), (.int .i64 n1)] fun v235 h146 =>
                            ext v235 0 fun _ =>
                            ext v235 1 fun v237 =>
                            asI .i64 v237 fun n89 =>
                            ifB (eq n89 5) (
                              calls rec h146 20 [] fun v238 h147 =>
                              asB v238 fun q99 =>
                              some ((.bool q99), h147)) (
                              some ((.bool false), h146))))))))))) (
            calls rec h4 18 [v0] fun v239 h148 =>
            calls rec h148 55 [v1] fun v240 h149 =>
            calls rec h149 54 [v239, v240] fun v241 h150 =>
            ext v241 0 fun v242 =>
            asB v242 fun q100 =>
            ext v241 1 fun v243 =>
            asI .i64 v243 fun n90 =>
            ifB (not (eq n90 0)) (
              some ((.bool false), h150)) (
              ifB q100 (
                ifB (not (eq n3 0)) (
                  some ((.bool false), h150)) (
                  ifB (eq n2 0) (
                    calls rec h150 18 [v0] fun v244 h151 =>
                    calls rec h151 54 [v244, v4] fun v245 h152 =>
                    ext v245 0 fun v246 =>
                    asB v246 fun q101 =>
                    ext v245 1 fun v247 =>
                    asI .i64 v247 fun n91 =>
                    ifB (not q101) (
                      some ((.bool false), h152)) (
                      ifB (not (eq n91 0)) (
                        some ((.bool false), h152)) (
                        calls rec h152 38 [v0, (.int .i64 n0)] fun v248 h153 =>
                        asB v248 fun q102 =>
                        ifB (not q102) (
                          calls rec h153 20 [] fun v249 h154 =>
                          asB v249 fun q103 =>
                          some ((.bool q103), h154)) (
                          calls rec h153 38 [v0, (.int .i64 n1)] fun v250 h155 =>
                          asB v250 fun q104 =>
                          ifB (not q104) (
                            calls rec h155 20 [] fun v251 h156 =>
                            asB v251 fun q105 =>
                            some ((.bool q105), h156)) (
                            six v0 n0 1 fun b56 b57 =>
                            ld Tryd.prog h155 3 b56 b57 fun v252 =>
                            asI .i64 v252 fun n92 =>
                            nn n1 (
                              ifB (eq (and .i64 (shr .i64 n92 n1) 1) 0) (
                                calls rec h155 20 [] fun v253 h157 =>
                                asB v253 fun q106 =>
                                some ((.bool q106), h157)) (
                                calls rec h155 18 [v0] fun v254 h158 =>
                                calls rec h158 34 [v254, (.int .i64 n0), (.int .i64 n1)] fun v255 h159 =>
                                ext v255 0 fun _ =>
                                ext v255 1 fun v257 =>
                                asI .i64 v257 fun n93 =>
                                ifB (eq n93 5) (
                                  calls rec h159 20 [] fun v258 h160 =>
                                  asB v258 fun q107 =>
                                  some ((.bool q107), h160)) (
                                  some ((.bool false), h159))))))))) (
                    calls rec h150 38 [v0, (.int .i64 n0)] fun v259 h161 =>
                    asB v259 fun q108 =>
                    ifB (not q108) (
                      calls rec h161 20 [] fun v260 h162 =>
                      asB v260 fun q109 =>
                      some ((.bool q109), h162)) (
                      calls rec h161 38 [v0, (.int .i64 n1)] fun v261 h163 =>
                      asB v261 fun q110 =>
                      ifB (not q110) (
                        calls rec h163 20 [] fun v262 h164 =>
                        asB v262 fun q111 =>
                        some ((.bool q111), h164)) (
                        six v0 n0 1 fun b58 b59 =>
                        ld Tryd.prog h163 3 b58 b59 fun v263 =>
                        asI .i64 v263 fun n94 =>
                        nn n1 (
                          ifB (eq (and .i64 (shr .i64 n94 n1) 1) 0) (
                            calls rec h163 20 [] fun v264 h165 =>
                            asB v264 fun q112 =>
                            some ((.bool q112), h165)) (
                            calls rec h163 18 [v0] fun v265 h166 =>
                            calls rec h166 34 [v265, (.int .i64 n0), (.int .i64 n1)] fun v266 h167 =>
                            ext v266 0 fun _ =>
                            ext v266 1 fun v268 =>
                            asI .i64 v268 fun n95 =>
                            ifB (eq n95 5) (
                              calls rec h167 20 [] fun v269 h168 =>
                              asB v269 fun q113 =>
                              some ((.bool q113), h168)) (
                              some ((.bool false), h167))))))))) (
                ifB (eq n2 0) (
                  calls rec h150 18 [v0] fun v270 h169 =>
                  calls rec h169 54 [v270, v4] fun v271 h170 =>
                  ext v271 0 fun v272 =>
                  asB v272 fun q114 =>
                  ext v271 1 fun v273 =>
                  asI .i64 v273 fun n96 =>
                  ifB (not q114) (
                    some ((.bool false), h170)) (
                    ifB (not (eq n96 0)) (
                      some ((.bool false), h170)) (
                      calls rec h170 38 [v0, (.int .i64 n0)] fun v274 h171 =>
                      asB v274 fun q115 =>
                      ifB (not q115) (
                        calls rec h171 20 [] fun v275 h172 =>
                        asB v275 fun q116 =>
                        some ((.bool q116), h172)) (
                        calls rec h171 38 [v0, (.int .i64 n1)] fun v276 h173 =>
                        asB v276 fun q117 =>
                        ifB (not q117) (
                          calls rec h173 20 [] fun v277 h174 =>
                          asB v277 fun q118 =>
                          some ((.bool q118), h174)) (
                          six v0 n0 1 fun b60 b61 =>
                          ld Tryd.prog h173 3 b60 b61 fun v278 =>
                          asI .i64 v278 fun n97 =>
                          nn n1 (
                            ifB (eq (and .i64 (shr .i64 n97 n1) 1) 0) (
                              calls rec h173 20 [] fun v279 h175 =>
                              asB v279 fun q119 =>
                              some ((.bool q119), h175)) (
                              calls rec h173 18 [v0] fun v280 h176 =>
                              calls rec h176 34 [v280, (.int .i64 n0), (.int .i64 n1)] fun v281 h177 =>
                              ext v281 0 fun _ =>
                              ext v281 1 fun v283 =>
                              asI .i64 v283 fun n98 =>
                              ifB (eq n98 5) (
                                calls rec h177 20 [] fun v284 h178 =>
                                asB v284 fun q120 =>
                                some ((.bool q120), h178)) (
                                some ((.bool false), h177))))))))) (
                  calls rec h150 38 [v0, (.int .i64 n0)] fun v285 h179 =>
                  asB v285 fun q121 =>
                  ifB (not q121) (
                    calls rec h179 20 [] fun v286 h180 =>
                    asB v286 fun q122 =>
                    some ((.bool q122), h180)) (
                    calls rec h179 38 [v0, (.int .i64 n1)] fun v287 h181 =>
                    asB v287 fun q123 =>
                    ifB (not q123) (
                      calls rec h181 20 [] fun v288 h182 =>
                      asB v288 fun q124 =>
                      some ((.bool q124), h182)) (
                      six v0 n0 1 fun b62 b63 =>
                      ld Tryd.prog h181 3 b62 b63 fun v289 =>
                      asI .i64 v289 fun n99 =>
                      nn n1 (
                        ifB (eq (and .i64 (shr .i64 n99 n1) 1) 0) (
                          calls rec h181 20 [] fun v290 h183 =>
                          asB v290 fun q125 =>
                          some ((.bool q125), h183)) (
                          calls rec h181 18 [v0] fun v291 h184 =>
                          calls rec h184 34 [v291, (.int .i64 n0), (.int .i64 n1)] fun v292 h185 =>
                          ext v292 0 fun _ =>
                          ext v292 1 fun v294 =>
                          asI .i64 v294 fun n100 =>
                          ifB (eq n100 5) (
                            calls rec h185 20 [] fun v295 h186 =>
                            asB v295 fun q126 =>
                            some ((.bool q126), h186)) (
                            some ((.bool false), h185))))))))))))) (
      eqv Tryd.prog 4 (.bool (eq n2 0)) (.bool false) fun q127 =>
      ifB (not q127) (
        some ((.bool false), h4)) (
        ifB (not (eq n2 0)) (
          ifB (not (eq n2 5)) (
            some ((.bool false), h4)) (
            calls rec h4 18 [v0] fun v296 h187 =>
            calls rec h187 55 [v1] fun v297 h188 =>
            calls rec h188 54 [v296, v297] fun v298 h189 =>
            ext v298 0 fun v299 =>
            asB v299 fun q128 =>
            ext v298 1 fun v300 =>
            asI .i64 v300 fun n101 =>
            ifB (not (eq n101 0)) (
              some ((.bool false), h189)) (
              ifB q128 (
                ifB (not (eq n3 0)) (
                  some ((.bool false), h189)) (
                  ifB (eq n2 0) (
                    calls rec h189 18 [v0] fun v301 h190 =>
                    calls rec h190 54 [v301, v4] fun v302 h191 =>
                    ext v302 0 fun v303 =>
                    asB v303 fun q129 =>
                    ext v302 1 fun v304 =>
                    asI .i64 v304 fun n102 =>
                    ifB (not q129) (
                      some ((.bool false), h191)) (
                      ifB (not (eq n102 0)) (
                        some ((.bool false), h191)) (
                        calls rec h191 38 [v0, (.int .i64 n0)] fun v305 h192 =>
                        asB v305 fun q130 =>
                        ifB (not q130) (
                          calls rec h192 20 [] fun v306 h193 =>
                          asB v306 fun q131 =>
                          some ((.bool q131), h193)) (
                          calls rec h192 38 [v0, (.int .i64 n1)] fun v307 h194 =>
                          asB v307 fun q132 =>
                          ifB (not q132) (
                            calls rec h194 20 [] fun v308 h195 =>
                            asB v308 fun q133 =>
                            some ((.bool q133), h195)) (
                            six v0 n0 1 fun b64 b65 =>
                            ld Tryd.prog h194 3 b64 b65 fun v309 =>
                            asI .i64 v309 fun n103 =>
                            nn n1 (
                              ifB (eq (and .i64 (shr .i64 n103 n1) 1) 0) (
                                calls rec h194 20 [] fun v310 h196 =>
                                asB v310 fun q134 =>
                                some ((.bool q134), h196)) (
                                calls rec h194 18 [v0] fun v311 h197 =>
                                calls rec h197 34 [v311, (.int .i64 n0), (.int .i64 n1)] fun v312 h198 =>
                                ext v312 0 fun _ =>
                                ext v312 1 fun v314 =>
                                asI .i64 v314 fun n104 =>
                                ifB (eq n104 5) (
                                  calls rec h198 20 [] fun v315 h199 =>
                                  asB v315 fun q135 =>
                                  some ((.bool q135), h199)) (
                                  some ((.bool false), h198))))))))) (
                    calls rec h189 38 [v0, (.int .i64 n0)] fun v316 h200 =>
                    asB v316 fun q136 =>
                    ifB (not q136) (
                      calls rec h200 20 [] fun v317 h201 =>
                      asB v317 fun q137 =>
                      some ((.bool q137), h201)) (
                      calls rec h200 38 [v0, (.int .i64 n1)] fun v318 h202 =>
                      asB v318 fun q138 =>
                      ifB (not q138) (
                        calls rec h202 20 [] fun v319 h203 =>
                        asB v319 fun q139 =>
                        some ((.bool q139), h203)) (
                        six v0 n0 1 fun b66 b67 =>
                        ld Tryd.prog h202 3 b66 b67 fun v320 =>
                        asI .i64 v320 fun n105 =>
                        nn n1 (
                          ifB (eq (and .i64 (shr .i64 n105 n1) 1) 0) (
                            calls rec h202 20 [] fun v321 h204 =>
                            asB v321 fun q140 =>
                            some ((.bool q140), h204)) (
                            calls rec h202 18 [v0] fun v322 h205 =>
                            calls rec h205 34 [v322, (.int .i64 n0), (.int .i64 n1)] fun v323 h206 =>
                            ext v323 0 fun _ =>
                            ext v323 1 fun v325 =>
                            asI .i64 v325 fun n106 =>
                            ifB (eq n106 5) (
                              calls rec h206 20 [] fun v326 h207 =>
                              asB v326 fun q141 =>
                              some ((.bool q141), h207)) (
                              some ((.bool false), h206))))))))) (
                ifB (eq n2 0) (
                  calls rec h189 18 [v0] fun v327 h208 =>
                  calls rec h208 54 [v327, v4] fun v328 h209 =>
                  ext v328 0 fun v329 =>
                  asB v329 fun q142 =>
                  ext v328 1 fun v330 =>
                  asI .i64 v330 fun n107 =>
                  ifB (not q142) (
                    some ((.bool false), h209)) (
                    ifB (not (eq n107 0)) (
                      some ((.bool false), h209)) (
                      calls rec h209 38 [v0, (.int .i64 n0)] fun v331 h210 =>
                      asB v331 fun q143 =>
                      ifB (not q143) (
                        calls rec h210 20 [] fun v332 h211 =>
                        asB v332 fun q144 =>
                        some ((.bool q144), h211)) (
                        calls rec h210 38 [v0, (.int .i64 n1)] fun v333 h212 =>
                        asB v333 fun q145 =>
                        ifB (not q145) (
                          calls rec h212 20 [] fun v334 h213 =>
                          asB v334 fun q146 =>
                          some ((.bool q146), h213)) (
                          six v0 n0 1 fun b68 b69 =>
                          ld Tryd.prog h212 3 b68 b69 fun v335 =>
                          asI .i64 v335 fun n108 =>
                          nn n1 (
                            ifB (eq (and .i64 (shr .i64 n108 n1) 1) 0) (
                              calls rec h212 20 [] fun v336 h214 =>
                              asB v336 fun q147 =>
                              some ((.bool q147), h214)) (
                              calls rec h212 18 [v0] fun v337 h215 =>
                              calls rec h215 34 [v337, (.int .i64 n0), (.int .i64 n1)] fun v338 h216 =>
                              ext v338 0 fun _ =>
                              ext v338 1 fun v340 =>
                              asI .i64 v340 fun n109 =>
                              ifB (eq n109 5) (
                                calls rec h216 20 [] fun v341 h217 =>
                                asB v341 fun q148 =>
                                some ((.bool q148), h217)) (
                                some ((.bool false), h216))))))))) (
                  calls rec h189 38 [v0, (.int .i64 n0)] fun v342 h218 =>
                  asB v342 fun q149 =>
                  ifB (not q149) (
                    calls rec h218 20 [] fun v343 h219 =>
                    asB v343 fun q150 =>
                    some ((.bool q150), h219)) (
                    calls rec h218 38 [v0, (.int .i64 n1)] fun v344 h220 =>
                    asB v344 fun q151 =>
                    ifB (not q151) (
                      calls rec h220 20 [] fun v345 h221 =>
                      asB v345 fun q152 =>
                      some ((.bool q152), h221)) (
                      six v0 n0 1 fun b70 b71 =>
                      ld Tryd.prog h220 3 b70 b71 fun v346 =>
                      asI .i64 v346 fun n110 =>
                      nn n1 (
                        ifB (eq (and .i64 (shr .i64 n110 n1) 1) 0) (
                          calls rec h220 20 [] fun v347 h222 =>
                          asB v347 fun q153 =>
                          some ((.bool q153), h222)) (
                          calls rec h220 18 [v0] fun v348 h223 =>
                          calls rec h223 34 [v348, (.int .i64 n0), (.int .i64 n1)] fun v349 h224 =>
                          ext v349 0 fun _ =>
                          ext v349 1 fun v351 =>
                          asI .i64 v351 fun n111 =>
                          ifB (eq n111 5) (
                            calls rec h224 20 [] fun v352 h225 =>
                            asB v352 fun q154 =>
                            some ((.bool q154), h225)) (
                            some ((.bool false), h224))))))))))) (
          calls rec h4 18 [v0] fun v353 h226 =>
          calls rec h226 55 [v1] fun v354 h227 =>
          calls rec h227 54 [v353, v354] fun v355 h228 =>
          ext v355 0 fun v356 =>
          asB v356 fun q155 =>
          ext v355 1 fun v357 =>
          asI .i64 v357 fun n112 =>
          ifB (not (eq n112 0)) (
            some ((.bool false), h228)) (
            ifB q155 (
              ifB (not (eq n3 0)) (
                some ((.bool false), h228)) (
                ifB (eq n2 0) (
                  calls rec h228 18 [v0] fun v358 h229 =>
                  calls rec h229 54 [v358, v4] fun v359 h230 =>
                  ext v359 0 fun v360 =>
                  asB v360 fun q156 =>
                  ext v359 1 fun v361 =>
                  asI .i64 v361 fun n113 =>
                  ifB (not q156) (
                    some ((.bool false), h230)) (
                    ifB (not (eq n113 0)) (
                      some ((.bool false), h230)) (
                      calls rec h230 38 [v0, (.int .i64 n0)] fun v362 h231 =>
                      asB v362 fun q157 =>
                      ifB (not q157) (
                        calls rec h231 20 [] fun v363 h232 =>
                        asB v363 fun q158 =>
                        some ((.bool q158), h232)) (
                        calls rec h231 38 [v0, (.int .i64 n1)] fun v364 h233 =>
                        asB v364 fun q159 =>
                        ifB (not q159) (
                          calls rec h233 20 [] fun v365 h234 =>
                          asB v365 fun q160 =>
                          some ((.bool q160), h234)) (
                          six v0 n0 1 fun b72 b73 =>
                          ld Tryd.prog h233 3 b72 b73 fun v366 =>
                          asI .i64 v366 fun n114 =>
                          nn n1 (
                            ifB (eq (and .i64 (shr .i64 n114 n1) 1) 0) (
                              calls rec h233 20 [] fun v367 h235 =>
                              asB v367 fun q161 =>
                              some ((.bool q161), h235)) (
                              calls rec h233 18 [v0] fun v368 h236 =>
                              calls rec h236 34 [v368, (.int .i64 n0), (.int .i64 n1)] fun v369 h237 =>
                              ext v369 0 fun _ =>
                              ext v369 1 fun v371 =>
                              asI .i64 v371 fun n115 =>
                              ifB (eq n115 5) (
                                calls rec h237 20 [] fun v372 h238 =>
                                asB v372 fun q162 =>
                                some ((.bool q162), h238)) (
                                some ((.bool false), h237))))))))) (
                  calls rec h228 38 [v0, (.int .i64 n0)] fun v373 h239 =>
                  asB v373 fun q163 =>
                  ifB (not q163) (
                    calls rec h239 20 [] fun v374 h240 =>
                    asB v374 fun q164 =>
                    some ((.bool q164), h240)) (
                    calls rec h239 38 [v0, (.int .i64 n1)] fun v375 h241 =>
                    asB v375 fun q165 =>
                    ifB (not q165) (
                      calls rec h241 20 [] fun v376 h242 =>
                      asB v376 fun q166 =>
                      some ((.bool q166), h242)) (
                      six v0 n0 1 fun b74 b75 =>
                      ld Tryd.prog h241 3 b74 b75 fun v377 =>
                      asI .i64 v377 fun n116 =>
                      nn n1 (
                        ifB (eq (and .i64 (shr .i64 n116 n1) 1) 0) (
                          calls rec h241 20 [] fun v378 h243 =>
                          asB v378 fun q167 =>
                          some ((.bool q167), h243)) (
                          calls rec h241 18 [v0] fun v379 h244 =>
                          calls rec h244 34 [v379, (.int .i64 n0), (.int .i64 n1)] fun v380 h245 =>
                          ext v380 0 fun _ =>
                          ext v380 1 fun v382 =>
                          asI .i64 v382 fun n117 =>
                          ifB (eq n117 5) (
                            calls rec h245 20 [] fun v383 h246 =>
                            asB v383 fun q168 =>
                            some ((.bool q168), h246)) (
                            some ((.bool false), h245))))))))) (
              ifB (eq n2 0) (
                calls rec h228 18 [v0] fun v384 h247 =>
                calls rec h247 54 [v384, v4] fun v385 h248 =>
                ext v385 0 fun v386 =>
                asB v386 fun q169 =>
                ext v385 1 fun v387 =>
                asI .i64 v387 fun n118 =>
                ifB (not q169) (
                  some ((.bool false), h248)) (
                  ifB (not (eq n118 0)) (
                    some ((.bool false), h248)) (
                    calls rec h248 38 [v0, (.int .i64 n0)] fun v388 h249 =>
                    asB v388 fun q170 =>
                    ifB (not q170) (
                      calls rec h249 20 [] fun v389 h250 =>
                      asB v389 fun q171 =>
                      some ((.bool q171), h250)) (
                      calls rec h249 38 [v0, (.int .i64 n1)] fun v390 h251 =>
                      asB v390 fun q172 =>
                      ifB (not q172) (
                        calls rec h251 20 [] fun v391 h252 =>
                        asB v391 fun q173 =>
                        some ((.bool q173), h252)) (
                        six v0 n0 1 fun b76 b77 =>
                        ld Tryd.prog h251 3 b76 b77 fun v392 =>
                        asI .i64 v392 fun n119 =>
                        nn n1 (
                          ifB (eq (and .i64 (shr .i64 n119 n1) 1) 0) (
                            calls rec h251 20 [] fun v393 h253 =>
                            asB v393 fun q174 =>
                            some ((.bool q174), h253)) (
                            calls rec h251 18 [v0] fun v394 h254 =>
                            calls rec h254 34 [v394, (.int .i64 n0), (.int .i64 n1)] fun v395 h255 =>
                            ext v395 0 fun _ =>
                            ext v395 1 fun v397 =>
                            asI .i64 v397 fun n120 =>
                            ifB (eq n120 5) (
                              calls rec h255 20 [] fun v398 h256 =>
                              asB v398 fun q175 =>
                              some ((.bool q175), h256)) (
                              some ((.bool false), h255))))))))) (
                calls rec h228 38 [v0, (.int .i64 n0)] fun v399 h257 =>
                asB v399 fun q176 =>
                ifB (not q176) (
                  calls rec h257 20 [] fun v400 h258 =>
                  asB v400 fun q177 =>
                  some ((.bool q177), h258)) (
                  calls rec h257 38 [v0, (.int .i64 n1)] fun v401 h259 =>
                  asB v401 fun q178 =>
                  ifB (not q178) (
                    calls rec h259 20 [] fun v402 h260 =>
                    asB v402 fun q179 =>
                    some ((.bool q179), h260)) (
                    six v0 n0 1 fun b78 b79 =>
                    ld Tryd.prog h259 3 b78 b79 fun v403 =>
                    asI .i64 v403 fun n121 =>
                    nn n1 (
                      ifB (eq (and .i64 (shr .i64 n121 n1) 1) 0) (
                        calls rec h259 20 [] fun v404 h261 =>
                        asB v404 fun q180 =>
                        some ((.bool q180), h261)) (
                        calls rec h259 18 [v0] fun v405 h262 =>
                        calls rec h262 34 [v405, (.int .i64 n0), (.int .i64 n1)] fun v406 h263 =>
                        ext v406 0 fun _ =>
                        ext v406 1 fun v408 =>
                        asI .i64 v408 fun n122 =>
                        ifB (eq n122 5) (
                          calls rec h263 20 [] fun v409 h264 =>
                          asB v409 fun q181 =>
                          some ((.bool q181), h264)) (
                          some ((.bool false), h263)))))))))))))

theorem e14 (rec : Rec) (k : Nat) (v0 : Value) (n0 : Int) (n1 : Int) (v1 : Value) (h : H) : bodyT Tryd.prog E0 SC (XC Tryd.prog rec k) 14 (Value × H) [.opq v0, .int .i64 n0, .int .i64 n1, .opq v1] h (fun v h => some (v, h)) = f14 rec k v0 n0 n1 v1 h := by kernel_rfl

theorem t14 {k : Nat} {v0 : Value} {n0 : Int} {n1 : Int} {v1 : Value} {h h1 : H} {v : Value} (hh : f14 rn k v0 n0 n1 v1 h = some (v, h1)) : rn 14 #[v0, .int .i64 n0, .int .i64 n1, v1] h = some (v, trunc Tryd.prog h h1 v) :=
  run_of_bodyT (args := [.opq v0, .int .i64 n0, .int .i64 n1, .opq v1]) rfl ((e14 _ _ _ _ _ _ _).trans hh)

theorem x14 {k : Nat} {v0 : Value} {n0 : Int} {n1 : Int} {v1 : Value} {h h1 : H} {v : Value} (hh : f14 rn k v0 n0 n1 v1 h = some (v, h1)) (hp : plainO v = false) : ∃ h2, rn 14 #[v0, .int .i64 n0, .int .i64 n1, v1] h = some (v, h2) ∧ Sm h1 h2 ∧ (Ext h h1 → Exw h h2) := trunc_cell hp (t14 hh)

end Go.AM

end

section

/- The staged forms of functions 54, and what calls of these answer. -/
namespace Go.AM
open Go.Proofs
noncomputable def f54_l2 (rec : Rec) (_k : Nat) (v3 : Value) (ws0 : List Value) (v6 : Value) (n9 : Int) (ws1 : List Value) (h4 : H) : Option (Ex × List Value × H) :=
  asI .i64 (gv ws1 3) fun n10 =>
  ifB (lt n10 n9) (
    asK (gv ws1 3) fun n11 =>
    six v6 n11 1 fun b6 b7 =>
    ld Tryd.prog h4 3 b6 b7 fun v9 =>
    asI .i64 v9 fun n12 =>
    calls rec h4 79 [v3, (.int .i64 n12)] fun v10 h5 =>
    asB v10 fun q1 =>
    ifB (not q1) (
      out .ret [(.bool false), (.int .i64 0), gv ws1 2, gv ws1 3] h5) (
      asI .i64 (gv ws1 3) fun n13 =>
      ifB (lt 0 n13) (
        asI .i64 (gv ws1 3) fun n14 =>
        six v6 (sub .i64 n14 1) 1 fun b8 b9 =>
        ld Tryd.prog h5 3 b8 b9 fun v11 =>
        asI .i64 v11 fun n15 =>
        calls rec h5 80 [gv ws1 2, (.int .i64 n15), (.int .i64 n12)] fun v12 h6 =>
        asB v12 fun q2 =>
        ifB (not q2) (
          out .ret [(.bool false), (.int .i64 0), gv ws1 2, gv ws1 3] h6) (
          asI .i64 (gv ws1 3) fun n16 =>
          ifB (lt 0 n16) (
            asI .i64 (gv ws1 3) fun n17 =>
            six v6 (sub .i64 n17 1) 1 fun b10 b11 =>
            ld Tryd.prog h6 3 b10 b11 fun v13 =>
            asI .i64 v13 fun n18 =>
            bld Tryd.prog 32 [(0, (.int .i64 n18)), (1, (.int .i64 n12))] fun v14 =>
            calls rec h6 87 [gv ws1 2, v14] fun v15 h7 =>
            asI .i64 (gv ws1 3) fun n19 =>
            ifB (eq n19 0) (
              sli Tryd.prog h7 102 v6 none (some (gv ws1 3)) none fun v16 =>
              calls rec h7 97 [v16, (.int .i64 n12)] fun v17 h8 =>
              asB v17 fun q3 =>
              ifB q3 (
                asI .i64 (gv ws0 4) fun n20 =>
                ifB (lt 0 n20) (
                  out .ret [(.bool false), (.int .i64 0), v15, gv ws1 3] h8) (
                  len v6 fun n21 =>
                  asI .i64 (gv ws1 3) fun n22 =>
                  ifB (lt n22 (sub .i64 n21 1)) (
                    out .ret [(.bool false), (.int .i64 0), v15, gv ws1 3] h8) (
                    asI .i64 (gv ws0 4) fun n23 =>
                    ifB (lt 0 n23) (
                      asI .i64 (gv ws0 3) fun n24 =>
                      nn n12 (
                        eqv Tryd.prog 4 (.bool (eq (and .i64 (shr .i64 n24 n12) 1) 1)) (.bool true) fun q4 =>
                        ifB (not q4) (
                          out .ret [(.bool false), (.int .i64 0), v15, gv ws1 3] h8) (
                          asI .i64 (gv ws1 3) fun n25 =>
                          out .normal [gv ws1 0, gv ws1 1, v15, (.int .i64 (add .i64 n25 1))] h8))) (
                      asI .i64 (gv ws1 3) fun n26 =>
                      out .normal [gv ws1 0, gv ws1 1, v15, (.int .i64 (add .i64 n26 1))] h8)))) (
                asI .i64 (gv ws0 4) fun n27 =>
                ifB (lt 0 n27) (
                  asI .i64 (gv ws0 3) fun n28 =>
                  nn n12 (
                    eqv Tryd.prog 4 (.bool (eq (and .i64 (shr .i64 n28 n12) 1) 1)) (.bool true) fun q5 =>
                    ifB (not q5) (
                      out .ret [(.bool false), (.int .i64 0), v15, gv ws1 3] h8) (
                      asI .i64 (gv ws1 3) fun n29 =>
                      out .normal [gv ws1 0, gv ws1 1, v15, (.int .i64 (add .i64 n29 1))] h8))) (
                  asI .i64 (gv ws1 3) fun n30 =>
                  out .normal [gv ws1 0, gv ws1 1, v15, (.int .i64 (add .i64 n30 1))] h8))) (
              len v6 fun n31 =>
              asI .i64 (gv ws1 3) fun n32 =>
              sli Tryd.prog h7 102 v6 none (some (gv ws1 3)) none fun v18 =>
              calls rec h7 97 [v18, (.int .i64 n12)] fun v19 h9 =>
              asB v19 fun q6 =>
              ifB q6 (
                asI .i64 (gv ws0 4) fun n33 =>
                ifB (lt 0 n33) (
                  out .ret [(.bool false), (.int .i64 0), v15, gv ws1 3] h9) (
                  len v6 fun n34 =>
                  asI .i64 (gv ws1 3) fun n35 =>
                  ifB (lt n35 (sub .i64 n34 1)) (
                    out .ret [(.bool false), (.int .i64 0), v15, gv ws1 3] h9) (
                    asI .i64 (gv ws0 4) fun n36 =>
                    ifB (lt 0 n36) (
                      asI .i64 (gv ws0 3) fun n37 =>
                      nn n12 (
                        eqv Tryd.prog 4 (.bool (eq (and .i64 (shr .i64 n37 n12) 1) 1)) (.bool (eq n32 (sub .i64 n31 1))) fun q7 =>
                        ifB (not q7) (
                          out .ret [(.bool false), (.int .i64 0), v15, gv ws1 3] h9) (
                          asI .i64 (gv ws1 3) fun n38 =>
                          out .normal [gv ws1 0, gv ws1 1, v15, (.int .i64 (add .i64 n38 1))] h9))) (
                      asI .i64 (gv ws1 3) fun n39 =>
                      out .normal [gv ws1 0, gv ws1 1, v15, (.int .i64 (add .i64 n39 1))] h9)))) (
                asI .i64 (gv ws0 4) fun n40 =>
                ifB (lt 0 n40) (
                  asI .i64 (gv ws0 3) fun n41 =>
                  nn n12 (
                    eqv Tryd.prog 4 (.bool (eq (and .i64 (shr .i64 n41 n12) 1) 1)) (.bool (eq n32 (sub .i64 n31 1))) fun q8 =>
                    ifB (not q8) (
                      out .ret [(.bool false), (.int .i64 0), v15, gv ws1 3] h9) (
                      asI .i64 (gv ws1 3) fun n42 =>
                      out .normal [gv ws1 0, gv ws1 1, v15, (.int .i64 (add .i64 n42 1))] h9))) (
                  asI .i64 (gv ws1 3) fun n43 =>
                  out .normal [gv ws1 0, gv ws1 1, v15, (.int .i64 (add .i64 n43 1))] h9)))) (
            asI .i64 (gv ws1 3) fun n44 =>
            ifB (eq n44 0) (
              sli Tryd.prog h6 102 v6 none (some (gv ws1 3)) none fun v20 =>
              calls rec h6 97 [v20, (.int .i64 n12)] fun v21 h10 =>
              asB v21 fun q9 =>
              ifB q9 (
                asI .i64 (gv ws0 4) fun n45 =>
                ifB (lt 0 n45) (
                  out .ret [(.bool false), (.int .i64 0), gv ws1 2, gv ws1 3] h10) (
                  len v6 fun n46 =>
                  asI .i64 (gv ws1 3) fun n47 =>
                  ifB (lt n47 (sub .i64 n46 1)) (
                    out .ret [(.bool false), (.int .i64 0), gv ws1 2, gv ws1 3] h10) (
                    asI .i64 (gv ws0 4) fun n48 =>
                    ifB (lt 0 n48) (
                      asI .i64 (gv ws0 3) fun n49 =>
                      nn n12 (
                        eqv Tryd.prog 4 (.bool (eq (and .i64 (shr .i64 n49 n12) 1) 1)) (.bool true) fun q10 =>
                        ifB (not q10) (
                          out .ret [(.bool false), (.int .i64 0), gv ws1 2, gv ws1 3] h10) (
                          asI .i64 (gv ws1 3) fun n50 =>
                          out .normal [gv ws1 0, gv ws1 1, gv ws1 2, (.int .i64 (add .i64 n50 1))] h10))) (
                      asI .i64 (gv ws1 3) fun n51 =>
                      out .normal [gv ws1 0, gv ws1 1, gv ws1 2, (.int .i64 (add .i64 n51 1))] h10)))) (
                asI .i64 (gv ws0 4) fun n52 =>
                ifB (lt 0 n52) (
                  asI .i64 (gv ws0 3) fun n53 =>
                  nn n12 (
                    eqv Tryd.prog 4 (.bool (eq (and .i64 (shr .i64 n53 n12) 1) 1)) (.bool true) fun q11 =>
                    ifB (not q11) (
                      out .ret [(.bool false), (.int .i64 0), gv ws1 2, gv ws1 3] h10) (
                      asI .i64 (gv ws1 3) fun n54 =>
                      out .normal [gv ws1 0, gv ws1 1, gv ws1 2, (.int .i64 (add .i64 n54 1))] h10))) (
                  asI .i64 (gv ws1 3) fun n55 =>
                  out .normal [gv ws1 0, gv ws1 1, gv ws1 2, (.int .i64 (add .i64 n55 1))] h10))) (
              len v6 fun n56 =>
              asI .i64 (gv ws1 3) fun n57 =>
              sli Tryd.prog h6 102 v6 none (some (gv ws1 3)) none fun v22 =>
              calls rec h6 97 [v22, (.int .i64 n12)] fun v23 h11 =>
              asB v23 fun q12 =>
              ifB q12 (
                asI .i64 (gv ws0 4) fun n58 =>
                ifB (lt 0 n58) (
                  out .ret [(.bool false), (.int .i64 0), gv ws1 2, gv ws1 3] h11) (
                  len v6 fun n59 =>
                  asI .i64 (gv ws1 3) fun n60 =>
                  ifB (lt n60 (sub .i64 n59 1)) (
                    out .ret [(.bool false), (.int .i64 0), gv ws1 2, gv ws1 3] h11) (
                    asI .i64 (gv ws0 4) fun n61 =>
                    ifB (lt 0 n61) (
                      asI .i64 (gv ws0 3) fun n62 =>
                      nn n12 (
                        eqv Tryd.prog 4 (.bool (eq (and .i64 (shr .i64 n62 n12) 1) 1)) (.bool (eq n57 (sub .i64 n56 1))) fun q13 =>
                        ifB (not q13) (
                          out .ret [(.bool false), (.int .i64 0), gv ws1 2, gv ws1 3] h11) (
                          asI .i64 (gv ws1 3) fun n63 =>
                          out .normal [gv ws1 0, gv ws1 1, gv ws1 2, (.int .i64 (add .i64 n63 1))] h11))) (
                      asI .i64 (gv ws1 3) fun n64 =>
                      out .normal [gv ws1 0, gv ws1 1, gv ws1 2, (.int .i64 (add .i64 n64 1))] h11)))) (
                asI .i64 (gv ws0 4) fun n65 =>
                ifB (lt 0 n65) (
                  asI .i64 (gv ws0 3) fun n66 =>
                  nn n12 (
                    eqv Tryd.prog 4 (.bool (eq (and .i64 (shr .i64 n66 n12) 1) 1)) (.bool (eq n57 (sub .i64 n56 1))) fun q14 =>
                    ifB (not q14) (
                      out .ret [(.bool false), (.int .i64 0), gv ws1 2, gv ws1 3] h11) (
                      asI .i64 (gv ws1 3) fun n67 =>
                      out .normal [gv ws1 0, gv ws1 1, gv ws1 2, (.int .i64 (add .i64 n67 1))] h11))) (
                  asI .i64 (gv ws1 3) fun n68 =>
                  out .normal [gv ws1 0, gv ws1 1, gv ws1 2, (.int .i64 (add .i64 n68 1))] h11)))))) (
        asI .i64 (gv ws1 3) fun n69 =>
        ifB (lt 0 n69) (
          asI .i64 (gv ws1 3) fun n70 =>
          six v6 (sub .i64 n70 1) 1 fun b12 b13 =>
          ld Tryd.prog h5 3 b12 b13 fun v24 =>
          asI .i64 v24 fun n71 =>
          bld Tryd.prog 32 [(0, (.int .i64 n71)), (1, (.int .i64 n12))] fun v25 =>
          calls rec h5 87 [gv ws1 2, v25] fun v26 h12 =>
          asI .i64 (gv ws1 3) fun n72 =>
          ifB (eq n72 0) (
            sli Tryd.prog h12 102 v6 none (some (gv ws1 3)) none fun v27 =>
            calls rec h12 97 [v27, (.int .i64 n12)] fun v28 h13 =>
            asB v28 fun q15 =>
            ifB q15 (
              asI .i64 (gv ws0 4) fun n73 =>
              ifB (lt 0 n73) (
                out .ret [(.bool false), (.int .i64 0), v26, gv ws1 3] h13) (
                len v6 fun n74 =>
                asI .i64 (gv ws1 3) fun n75 =>
                ifB (lt n75 (sub .i64 n74 1)) (
                  out .ret [(.bool false), (.int .i64 0), v26, gv ws1 3] h13) (
                  asI .i64 (gv ws0 4) fun n76 =>
                  ifB (lt 0 n76) (
                    asI .i64 (gv ws0 3) fun n77 =>
                    nn n12 (
                      eqv Tryd.prog 4 (.bool (eq (and .i64 (shr .i64 n77 n12) 1) 1)) (.bool true) fun q16 =>
                      ifB (not q16) (
                        out .ret [(.bool false), (.int .i64 0), v26, gv ws1 3] h13) (
                        asI .i64 (gv ws1 3) fun n78 =>
                        out .normal [gv ws1 0, gv ws1 1, v26, (.int .i64 (add .i64 n78 1))] h13))) (
                    asI .i64 (gv ws1 3) fun n79 =>
                    out .normal [gv ws1 0, gv ws1 1, v26, (.int .i64 (add .i64 n79 1))] h13)))) (
              asI .i64 (gv ws0 4) fun n80 =>
              ifB (lt 0 n80) (
                asI .i64 (gv ws0 3) fun n81 =>
                nn n12 (
                  eqv Tryd.prog 4 (.bool (eq (and .i64 (shr .i64 n81 n12) 1) 1)) (.bool true) fun q17 =>
                  ifB (not q17) (
                    out .ret [(.bool false), (.int .i64 0), v26, gv ws1 3] h13) (
                    asI .i64 (gv ws1 3) fun n82 =>
                    out .normal [gv ws1 0, gv ws1 1, v26, (.int .i64 (add .i64 n82 1))] h13))) (
                asI .i64 (gv ws1 3) fun n83 =>
                out .normal [gv ws1 0, gv ws1 1, v26, (.int .i64 (add .i64 n83 1))] h13))) (
            len v6 fun n84 =>
            asI .i64 (gv ws1 3) fun n85 =>
            sli Tryd.prog h12 102 v6 none (some (gv ws1 3)) none fun v29 =>
            calls rec h12 97 [v29, (.int .i64 n12)] fun v30 h14 =>
            asB v30 fun q18 =>
            ifB q18 (
              asI .i64 (gv ws0 4) fun n86 =>
              ifB (lt 0 n86) (
                out .ret [(.bool false), (.int .i64 0), v26, gv ws1 3] h14) (
                len v6 fun n87 =>
                asI .i64 (gv ws1 3) fun n88 =>
                ifB (lt n88 (sub .i64 n87 1)) (
                  out .ret [(.bool false), (.int .i64 0), v26, gv ws1 3] h14) (
                  asI .i64 (gv ws0 4) fun n89 =>
                  ifB (lt 0 n89) (
                    asI .i64 (gv ws0 3) fun n90 =>
                    nn n12 (
                      eqv Tryd.prog 4 (.bool (eq (and .i64 (shr .i64 n90 n12) 1) 1)) (.bool (eq n85 (sub .i64 n84 1))) fun q19 =>
                      ifB (not q19) (
                        out .ret [(.bool false), (.int .i64 0), v26, gv ws1 3] h14) (
                        asI .i64 (gv ws1 3) fun n91 =>
                        out .normal [gv ws1 0, gv ws1 1, v26, (.int .i64 (add .i64 n91 1))] h14))) (
                    asI .i64 (gv ws1 3) fun n92 =>
                    out .normal [gv ws1 0, gv ws1 1, v26, (.int .i64 (add .i64 n92 1))] h14)))) (
              asI .i64 (gv ws0 4) fun n93 =>
              ifB (lt 0 n93) (
                asI .i64 (gv ws0 3) fun n94 =>
                nn n12 (
                  eqv Tryd.prog 4 (.bool (eq (and .i64 (shr .i64 n94 n12) 1) 1)) (.bool (eq n85 (sub .i64 n84 1))) fun q20 =>
                  ifB (not q20) (
                    out .ret [(.bool false), (.int .i64 0), v26, gv ws1 3] h14) (
                    asI .i64 (gv ws1 3) fun n95 =>
                    out .normal [gv ws1 0, gv ws1 1, v26, (.int .i64 (add .i64 n95 1))] h14))) (
                asI .i64 (gv ws1 3) fun n96 =>
                out .normal [gv ws1 0, gv ws1 1, v26, (.int .i64 (add .i64 n96 1))] h14)))) (
          asI .i64 (gv ws1 3) fun n97 =>
          ifB (eq n97 0) (
            sli Tryd.prog h5 102 v6 none (some (gv ws1 3)) none fun v31 =>
            calls rec h5 97 [v31, (.int .i64 n12)] fun v32 h15 =>
            asB v32 fun q21 =>
            ifB q21 (
              asI .i64 (gv ws0 4) fun n98 =>
              ifB (lt 0 n98) (
                out .ret [(.bool false), (.int .i64 0), gv ws1 2, gv ws1 3] h15) (
                len v6 fun n99 =>
                asI .i64 (gv ws1 3) fun n100 =>
                ifB (lt n100 (sub .i64 n99 1)) (
                  out .ret [(.bool false), (.int .i64 0), gv ws1 2, gv ws1 3] h15) (
                  asI .i64 (gv ws0 4) fun n101 =>
                  ifB (lt 0 n101) (
                    asI .i64 (gv ws0 3) fun n102 =>
                    nn n12 (
                      eqv Tryd.prog 4 (.bool (eq (and .i64 (shr .i64 n102 n12) 1) 1)) (.bool true) fun q22 =>
                      ifB (not q22) (
                        out .ret [(.bool false), (.int .i64 0), gv ws1 2, gv ws1 3] h15) (
                        asI .i64 (gv ws1 3) fun n103 =>
                        out .normal [gv ws1 0, gv ws1 1, gv ws1 2, (.int .i64 (add .i64 n103 1))] h15))) (
                    asI .i64 (gv ws1 3) fun n104 =>
                    out .normal [gv ws1 0, gv ws1 1, gv ws1 2, (.int .i64 (add .i64 n104 1))] h15)))) (
              asI .i64 (gv ws0 4) fun n105 =>
              ifB (lt 0 n105) (
                asI .i64 (gv ws0 3) fun n106 =>
                nn n12 (
                  eqv Tryd.prog 4 (.bool (eq (and .i64 (shr .i64 n106 n12) 1) 1)) (.bool true) fun q23 =>
                  ifB (not q23) (
                    out .ret [(.bool false), (.int .i64 0), gv ws1 2, gv ws1 3] h15) (
                    asI .i64 (gv ws1 3) fun n107 =>
                    out .normal [gv ws1 0, gv ws1 1, gv ws1 2, (.int .i64 (add .i64 n107 1))] h15))) (
                asI .i64 (gv ws1 3) fun n108 =>
                out .normal [gv ws1 0, gv ws1 1, gv ws1 2, (.int .i64 (add .i64 n108 1))] h15))) (
            len v6 fun n109 =>
            asI .i64 (gv ws1 3) fun n110 =>
            sli Tryd.prog h5 102 v6 none (some (gv ws1 3)) none fun v33 =>
            calls rec h5 97 [v33, (.int .i64 n12)] fun v34 h16 =>
            asB v34 fun q24 =>
            ifB q24 (
              asI .i64 (gv ws0 4) fun n111 =>
              ifB (lt 0 n111) (
                out .ret [(.bool false), (.int .i64 0), gv ws1 2, gv ws1 3] h16) (
                len v6 fun n112 =>
                asI .i64 (gv ws1 3) fun n113 =>
                ifB (lt n113 (sub .i64 n112 1)) (
                  out .ret [(.bool false), (.int .i64 0), gv ws1 2, gv ws1 3] h16) (
                  asI .i64 (gv ws0 4) fun n114 =>
                  ifB (lt 0 n114) (
                    asI .i64 (gv ws0 3) fun n115 =>
                    nn n12 (
                      eqv Tryd.prog 4 (.bool (eq (and .i64 (shr .i64 n115 n12) 1) 1)) (.bool (eq n110 (sub .i64 n109 1))) fun q25 =>
                      ifB (not q25) (
                        out .ret [(.bool false), (.int .i64 0), gv ws1 2, gv ws1 3] h16) (
                        asI .i64 (gv ws1 3) fun n116 =>
                        out .normal [gv ws1 0, gv ws1 1, gv ws1 2, (.int .i64 (add .i64 n116 1))] h16))) (
                    asI .i64 (gv ws1 3) fun n117 =>
                    out .normal [gv ws1 0, gv ws1 1, gv ws1 2, (.int .i64 (add .i64 n117 1))] h16)))) (
              asI .i64 (gv ws0 4) fun n118 =>
              ifB (lt 0 n118) (
                asI .i64 (gv ws0 3) fun n119 =>
                nn n12 (
                  eqv Tryd.prog 4 (.bool (eq (and .i64 (shr .i64 n119 n12) 1) 1)) (.bool (eq n110 (sub .i64 n109 1))) fun q26 =>
                  ifB (not q26) (
                    out .ret [(.bool false), (.int .i64 0), gv ws1 2, gv ws1 3] h16) (
                    asI .i64 (gv ws1 3) fun n120 =>
                    out .normal [gv ws1 0, gv ws1 1, gv ws1 2, (.int .i64 (add .i64 n120 1))] h16))) (
                asI .i64 (gv ws1 3) fun n121 =>
                out .normal [gv ws1 0, gv ws1 1, gv ws1 2, (.int .i64 (add .i64 n121 1))] h16))))))) (
    out (.exit 2) [gv ws1 0, gv ws1 1, gv ws1 2, gv ws1 3] h4)

noncomputable def f54_l3 (_rec : Rec) (_k : Nat) (v6 : Value) (n122 : Int) (ws3 : List Value) (h18 : H) : Option (Ex × List Value × H) :=
  asI .i64 (gv ws3 1) fun n123 =>
  ifB (lt n123 n122) (
    asK (gv ws3 1) fun n124 =>
    six v6 n124 1 fun b14 b15 =>
    ld Tryd.prog h18 3 b14 b15 fun v35 =>
    asI .i64 v35 fun n125 =>
    nn n125 (
      asI .i64 (gv ws3 0) fun n126 =>
      asI .i64 (gv ws3 1) fun n127 =>
      out .normal [(.int .i64 (or .i64 n126 (shl .i64 1 n125))), (.int .i64 (add .i64 n127 1))] h18)) (
    out (.exit 4) [gv ws3 0, gv ws3 1] h18)

noncomputable def f54_l4 (rec : Rec) (_k : Nat) (v3 : Value) (ws0 : List Value) (v6 : Value) (n129 : Int) (ws5 : List Value) (h20 : H) : Option (Ex × List Value × H) :=
  asI .i64 (gv ws5 3) fun n130 =>
  ifB (lt n130 n129) (
    asK (gv ws5 3) fun n131 =>
    six v6 n131 1 fun b16 b17 =>
    ld Tryd.prog h20 3 b16 b17 fun v36 =>
    asI .i64 v36 fun n132 =>
    calls rec h20 79 [v3, (.int .i64 n132)] fun v37 h21 =>
    asB v37 fun q27 =>
    ifB (not q27) (
      out .ret [(.bool false), (.int .i64 0), gv ws5 2, gv ws5 3] h21) (
      asI .i64 (gv ws5 3) fun n133 =>
      ifB (lt 0 n133) (
        asI .i64 (gv ws5 3) fun n134 =>
        six v6 (sub .i64 n134 1) 1 fun b18 b19 =>
        ld Tryd.prog h21 3 b18 b19 fun v38 =>
        asI .i64 v38 fun n135 =>
        calls rec h21 80 [gv ws5 2, (.int .i64 n135), (.int .i64 n132)] fun v39 h22 =>
        asB v39 fun q28 =>
        ifB (not q28) (
          out .ret [(.bool false), (.int .i64 0), gv ws5 2, gv ws5 3] h22) (
          asI .i64 (gv ws5 3) fun n136 =>
          ifB (lt 0 n136) (
            asI .i64 (gv ws5 3) fun n137 =>
            six v6 (sub .i64 n137 1) 1 fun b20 b21 =>
            ld Tryd.prog h22 3 b20 b21 fun v40 =>
            asI .i64 v40 fun n138 =>
            bld Tryd.prog 32 [(0, (.int .i64 n138)), (1, (.int .i64 n132))] fun v41 =>
            calls rec h22 87 [gv ws5 2, v41] fun v42 h23 =>
            asI .i64 (gv ws5 3) fun n139 =>
            ifB (eq n139 0) (
              sli Tryd.prog h23 102 v6 none (some (gv ws5 3)) none fun v43 =>
              calls rec h23 97 [v43, (.int .i64 n132)] fun v44 h24 =>
              asB v44 fun q29 =>
              ifB q29 (
                asI .i64 (gv ws0 4) fun n140 =>
                ifB (lt 0 n140) (
                  out .ret [(.bool false), (.int .i64 0), v42, gv ws5 3] h24) (
                  len v6 fun n141 =>
                  asI .i64 (gv ws5 3) fun n142 =>
                  ifB (lt n142 (sub .i64 n141 1)) (
                    out .ret [(.bool false), (.int .i64 0), v42, gv ws5 3] h24) (
                    asI .i64 (gv ws0 4) fun n143 =>
                    ifB (lt 0 n143) (
                      asI .i64 (gv ws0 3) fun n144 =>
                      nn n132 (
                        eqv Tryd.prog 4 (.bool (eq (and .i64 (shr .i64 n144 n132) 1) 1)) (.bool true) fun q30 =>
                        ifB (not q30) (
                          out .ret [(.bool false), (.int .i64 0), v42, gv ws5 3] h24) (
                          asI .i64 (gv ws5 3) fun n145 =>
                          out .normal [gv ws5 0, gv ws5 1, v42, (.int .i64 (add .i64 n145 1))] h24))) (
                      asI .i64 (gv ws5 3) fun n146 =>
                      out .normal [gv ws5 0, gv ws5 1, v42, (.int .i64 (add .i64 n146 1))] h24)))) (
                asI .i64 (gv ws0 4) fun n147 =>
                ifB (lt 0 n147) (
                  asI .i64 (gv ws0 3) fun n148 =>
                  nn n132 (
                    eqv Tryd.prog 4 (.bool (eq (and .i64 (shr .i64 n148 n132) 1) 1)) (.bool true) fun q31 =>
                    ifB (not q31) (
                      out .ret [(.bool false), (.int .i64 0), v42, gv ws5 3] h24) (
                      asI .i64 (gv ws5 3) fun n149 =>
                      out .normal [gv ws5 0, gv ws5 1, v42, (.int .i64 (add .i64 n149 1))] h24))) (
                  asI .i64 (gv ws5 3) fun n150 =>
                  out .normal [gv ws5 0, gv ws5 1, v42, (.int .i64 (add .i64 n150 1))] h24))) (
              len v6 fun n151 =>
              asI .i64 (gv ws5 3) fun n152 =>
              sli Tryd.prog h23 102 v6 none (some (gv ws5 3)) none fun v45 =>
              calls rec h23 97 [v45, (.int .i64 n132)] fun v46 h25 =>
              asB v46 fun q32 =>
              ifB q32 (
                asI .i64 (gv ws0 4) fun n153 =>
                ifB (lt 0 n153) (
                  out .ret [(.bool false), (.int .i64 0), v42, gv ws5 3] h25) (
                  len v6 fun n154 =>
                  asI .i64 (gv ws5 3) fun n155 =>
                  ifB (lt n155 (sub .i64 n154 1)) (
                    out .ret [(.bool false), (.int .i64 0), v42, gv ws5 3] h25) (
                    asI .i64 (gv ws0 4) fun n156 =>
                    ifB (lt 0 n156) (
                      asI .i64 (gv ws0 3) fun n157 =>
                      nn n132 (
                        eqv Tryd.prog 4 (.bool (eq (and .i64 (shr .i64 n157 n132) 1) 1)) (.bool (eq n152 (sub .i64 n151 1))) fun q33 =>
                        ifB (not q33) (
                          out .ret [(.bool false), (.int .i64 0), v42, gv ws5 3] h25) (
                          asI .i64 (gv ws5 3) fun n158 =>
                          out .normal [gv ws5 0, gv ws5 1, v42, (.int .i64 (add .i64 n158 1))] h25))) (
                      asI .i64 (gv ws5 3) fun n159 =>
                      out .normal [gv ws5 0, gv ws5 1, v42, (.int .i64 (add .i64 n159 1))] h25)))) (
                asI .i64 (gv ws0 4) fun n160 =>
                ifB (lt 0 n160) (
                  asI .i64 (gv ws0 3) fun n161 =>
                  nn n132 (
                    eqv Tryd.prog 4 (.bool (eq (and .i64 (shr .i64 n161 n132) 1) 1)) (.bool (eq n152 (sub .i64 n151 1))) fun q34 =>
                    ifB (not q34) (
                      out .ret [(.bool false), (.int .i64 0), v42, gv ws5 3] h25) (
                      asI .i64 (gv ws5 3) fun n162 =>
                      out .normal [gv ws5 0, gv ws5 1, v42, (.int .i64 (add .i64 n162 1))] h25))) (
                  asI .i64 (gv ws5 3) fun n163 =>
                  out .normal [gv ws5 0, gv ws5 1, v42, (.int .i64 (add .i64 n163 1))] h25)))) (
            asI .i64 (gv ws5 3) fun n164 =>
            ifB (eq n164 0) (
              sli Tryd.prog h22 102 v6 none (some (gv ws5 3)) none fun v47 =>
              calls rec h22 97 [v47, (.int .i64 n132)] fun v48 h26 =>
              asB v48 fun q35 =>
              ifB q35 (
                asI .i64 (gv ws0 4) fun n165 =>
                ifB (lt 0 n165) (
                  out .ret [(.bool false), (.int .i64 0), gv ws5 2, gv ws5 3] h26) (
                  len v6 fun n166 =>
                  asI .i64 (gv ws5 3) fun n167 =>
                  ifB (lt n167 (sub .i64 n166 1)) (
                    out .ret [(.bool false), (.int .i64 0), gv ws5 2, gv ws5 3] h26) (
                    asI .i64 (gv ws0 4) fun n168 =>
                    ifB (lt 0 n168) (
                      asI .i64 (gv ws0 3) fun n169 =>
                      nn n132 (
                        eqv Tryd.prog 4 (.bool (eq (and .i64 (shr .i64 n169 n132) 1) 1)) (.bool true) fun q36 =>
                        ifB (not q36) (
                          out .ret [(.bool false), (.int .i64 0), gv ws5 2, gv ws5 3] h26) (
                          asI .i64 (gv ws5 3) fun n170 =>
                          out .normal [gv ws5 0, gv ws5 1, gv ws5 2, (.int .i64 (add .i64 n170 1))] h26))) (
                      asI .i64 (gv ws5 3) fun n171 =>
                      out .normal [gv ws5 0, gv ws5 1, gv ws5 2, (.int .i64 (add .i64 n171 1))] h26)))) (
                asI .i64 (gv ws0 4) fun n172 =>
                ifB (lt 0 n172) (
                  asI .i64 (gv ws0 3) fun n173 =>
                  nn n132 (
                    eqv Tryd.prog 4 (.bool (eq (and .i64 (shr .i64 n173 n132) 1) 1)) (.bool true) fun q37 =>
                    ifB (not q37) (
                      out .ret [(.bool false), (.int .i64 0), gv ws5 2, gv ws5 3] h26) (
                      asI .i64 (gv ws5 3) fun n174 =>
                      out .normal [gv ws5 0, gv ws5 1, gv ws5 2, (.int .i64 (add .i64 n174 1))] h26))) (
                  asI .i64 (gv ws5 3) fun n175 =>
                  out .normal [gv ws5 0, gv ws5 1, gv ws5 2, (.int .i64 (add .i64 n175 1))] h26))) (
              len v6 fun n176 =>
              asI .i64 (gv ws5 3) fun n177 =>
              sli Tryd.prog h22 102 v6 none (some (gv ws5 3)) none fun v49 =>
              calls rec h22 97 [v49, (.int .i64 n132)] fun v50 h27 =>
              asB v50 fun q38 =>
              ifB q38 (
                asI .i64 (gv ws0 4) fun n178 =>
                ifB (lt 0 n178) (
                  out .ret [(.bool false), (.int .i64 0), gv ws5 2, gv ws5 3] h27) (
                  len v6 fun n179 =>
                  asI .i64 (gv ws5 3) fun n180 =>
                  ifB (lt n180 (sub .i64 n179 1)) (
                    out .ret [(.bool false), (.int .i64 0), gv ws5 2, gv ws5 3] h27) (
                    asI .i64 (gv ws0 4) fun n181 =>
                    ifB (lt 0 n181) (
                      asI .i64 (gv ws0 3) fun n182 =>
                      nn n132 (
                        eqv Tryd.prog 4 (.bool (eq (and .i64 (shr .i64 n182 n132) 1) 1)) (.bool (eq n177 (sub .i64 n176 1))) fun q39 =>
                        ifB (not q39) (
                          out .ret [(.bool false), (.int .i64 0), gv ws5 2, gv ws5 3] h27) (
                          asI .i64 (gv ws5 3) fun n183 =>
                          out .normal [gv ws5 0, gv ws5 1, gv ws5 2, (.int .i64 (add .i64 n183 1))] h27))) (
                      asI .i64 (gv ws5 3) fun n184 =>
                      out .normal [gv ws5 0, gv ws5 1, gv ws5 2, (.int .i64 (add .i64 n184 1))] h27)))) (
                asI .i64 (gv ws0 4) fun n185 =>
                ifB (lt 0 n185) (
                  asI .i64 (gv ws0 3) fun n186 =>
                  nn n132 (
                    eqv Tryd.prog 4 (.bool (eq (and .i64 (shr .i64 n186 n132) 1) 1)) (.bool (eq n177 (sub .i64 n176 1))) fun q40 =>
                    ifB (not q40) (
                      out .ret [(.bool false), (.int .i64 0), gv ws5 2, gv ws5 3] h27) (
                      asI .i64 (gv ws5 3) fun n187 =>
                      out .normal [gv ws5 0, gv ws5 1, gv ws5 2, (.int .i64 (add .i64 n187 1))] h27))) (
                  asI .i64 (gv ws5 3) fun n188 =>
                  out .normal [gv ws5 0, gv ws5 1, gv ws5 2, (.int .i64 (add .i64 n188 1))] h27)))))) (
        asI .i64 (gv ws5 3) fun n189 =>
        ifB (lt 0 n189) (
          asI .i64 (gv ws5 3) fun n190 =>
          six v6 (sub .i64 n190 1) 1 fun b22 b23 =>
          ld Tryd.prog h21 3 b22 b23 fun v51 =>
          asI .i64 v51 fun n191 =>
          bld Tryd.prog 32 [(0, (.int .i64 n191)), (1, (.int .i64 n132))] fun v52 =>
          calls rec h21 87 [gv ws5 2, v52] fun v53 h28 =>
          asI .i64 (gv ws5 3) fun n192 =>
          ifB (eq n192 0) (
            sli Tryd.prog h28 102 v6 none (some (gv ws5 3)) none fun v54 =>
            calls rec h28 97 [v54, (.int .i64 n132)] fun v55 h29 =>
            asB v55 fun q41 =>
            ifB q41 (
              asI .i64 (gv ws0 4) fun n193 =>
              ifB (lt 0 n193) (
                out .ret [(.bool false), (.int .i64 0), v53, gv ws5 3] h29) (
                len v6 fun n194 =>
                asI .i64 (gv ws5 3) fun n195 =>
                ifB (lt n195 (sub .i64 n194 1)) (
                  out .ret [(.bool false), (.int .i64 0), v53, gv ws5 3] h29) (
                  asI .i64 (gv ws0 4) fun n196 =>
                  ifB (lt 0 n196) (
                    asI .i64 (gv ws0 3) fun n197 =>
                    nn n132 (
                      eqv Tryd.prog 4 (.bool (eq (and .i64 (shr .i64 n197 n132) 1) 1)) (.bool true) fun q42 =>
                      ifB (not q42) (
                        out .ret [(.bool false), (.int .i64 0), v53, gv ws5 3] h29) (
                        asI .i64 (gv ws5 3) fun n198 =>
                        out .normal [gv ws5 0, gv ws5 1, v53, (.int .i64 (add .i64 n198 1))] h29))) (
                    asI .i64 (gv ws5 3) fun n199 =>
                    out .normal [gv ws5 0, gv ws5 1, v53, (.int .i64 (add .i64 n199 1))] h29)))) (
              asI .i64 (gv ws0 4) fun n200 =>
              ifB (lt 0 n200) (
                asI .i64 (gv ws0 3) fun n201 =>
                nn n132 (
                  eqv Tryd.prog 4 (.bool (eq (and .i64 (shr .i64 n201 n132) 1) 1)) (.bool true) fun q43 =>
                  ifB (not q43) (
                    out .ret [(.bool false), (.int .i64 0), v53, gv ws5 3] h29) (
                    asI .i64 (gv ws5 3) fun n202 =>
                    out .normal [gv ws5 0, gv ws5 1, v53, (.int .i64 (add .i64 n202 1))] h29))) (
                asI .i64 (gv ws5 3) fun n203 =>
                out .normal [gv ws5 0, gv ws5 1, v53, (.int .i64 (add .i64 n203 1))] h29))) (
            len v6 fun n204 =>
            asI .i64 (gv ws5 3) fun n205 =>
            sli Tryd.prog h28 102 v6 none (some (gv ws5 3)) none fun v56 =>
            calls rec h28 97 [v56, (.int .i64 n132)] fun v57 h30 =>
            asB v57 fun q44 =>
            ifB q44 (
              asI .i64 (gv ws0 4) fun n206 =>
              ifB (lt 0 n206) (
                out .ret [(.bool false), (.int .i64 0), v53, gv ws5 3] h30) (
                len v6 fun n207 =>
                asI .i64 (gv ws5 3) fun n208 =>
                ifB (lt n208 (sub .i64 n207 1)) (
                  out .ret [(.bool false), (.int .i64 0), v53, gv ws5 3] h30) (
                  asI .i64 (gv ws0 4) fun n209 =>
                  ifB (lt 0 n209) (
                    asI .i64 (gv ws0 3) fun n210 =>
                    nn n132 (
                      eqv Tryd.prog 4 (.bool (eq (and .i64 (shr .i64 n210 n132) 1) 1)) (.bool (eq n205 (sub .i64 n204 1))) fun q45 =>
                      ifB (not q45) (
                        out .ret [(.bool false), (.int .i64 0), v53, gv ws5 3] h30) (
                        asI .i64 (gv ws5 3) fun n211 =>
                        out .normal [gv ws5 0, gv ws5 1, v53, (.int .i64 (add .i64 n211 1))] h30))) (
                    asI .i64 (gv ws5 3) fun n212 =>
                    out .normal [gv ws5 0, gv ws5 1, v53, (.int .i64 (add .i64 n212 1))] h30)))) (
              asI .i64 (gv ws0 4) fun n213 =>
              ifB (lt 0 n213) (
                asI .i64 (gv ws0 3) fun n214 =>
                nn n132 (
                  eqv Tryd.prog 4 (.bool (eq (and .i64 (shr .i64 n214 n132) 1) 1)) (.bool (eq n205 (sub .i64 n204 1))) fun q46 =>
                  ifB (not q46) (
                    out .ret [(.bool false), (.int .i64 0), v53, gv ws5 3] h30) (
                    asI .i64 (gv ws5 3) fun n215 =>
                    out .normal [gv ws5 0, gv ws5 1, v53, (.int .i64 (add .i64 n215 1))] h30))) (
                asI .i64 (gv ws5 3) fun n216 =>
                out .normal [gv ws5 0, gv ws5 1, v53, (.int .i64 (add .i64 n216 1))] h30)))) (
          asI .i64 (gv ws5 3) fun n217 =>
          ifB (eq n217 0) (
            sli Tryd.prog h21 102 v6 none (some (gv ws5 3)) none fun v58 =>
            calls rec h21 97 [v58, (.int .i64 n132)] fun v59 h31 =>
            asB v59 fun q47 =>
            ifB q47 (
              asI .i64 (gv ws0 4) fun n218 =>
              ifB (lt 0 n218) (
                out .ret [(.bool false), (.int .i64 0), gv ws5 2, gv ws5 3] h31) (
                len v6 fun n219 =>
                asI .i64 (gv ws5 3) fun n220 =>
                ifB (lt n220 (sub .i64 n219 1)) (
                  out .ret [(.bool false), (.int .i64 0), gv ws5 2, gv ws5 3] h31) (
                  asI .i64 (gv ws0 4) fun n221 =>
                  ifB (lt 0 n221) (
                    asI .i64 (gv ws0 3) fun n222 =>
                    nn n132 (
                      eqv Tryd.prog 4 (.bool (eq (and .i64 (shr .i64 n222 n132) 1) 1)) (.bool true) fun q48 =>
                      ifB (not q48) (
                        out .ret [(.bool false), (.int .i64 0), gv ws5 2, gv ws5 3] h31) (
                        asI .i64 (gv ws5 3) fun n223 =>
                        out .normal [gv ws5 0, gv ws5 1, gv ws5 2, (.int .i64 (add .i64 n223 1))] h31))) (
                    asI .i64 (gv ws5 3) fun n224 =>
                    out .normal [gv ws5 0, gv ws5 1, gv ws5 2, (.int .i64 (add .i64 n224 1))] h31)))) (
              asI .i64 (gv ws0 4) fun n225 =>
              ifB (lt 0 n225) (
                asI .i64 (gv ws0 3) fun n226 =>
                nn n132 (
                  eqv Tryd.prog 4 (.bool (eq (and .i64 (shr .i64 n226 n132) 1) 1)) (.bool true) fun q49 =>
                  ifB (not q49) (
                    out .ret [(.bool false), (.int .i64 0), gv ws5 2, gv ws5 3] h31) (
                    asI .i64 (gv ws5 3) fun n227 =>
                    out .normal [gv ws5 0, gv ws5 1, gv ws5 2, (.int .i64 (add .i64 n227 1))] h31))) (
                asI .i64 (gv ws5 3) fun n228 =>
                out .normal [gv ws5 0, gv ws5 1, gv ws5 2, (.int .i64 (add .i64 n228 1))] h31))) (
            len v6 fun n229 =>
            asI .i64 (gv ws5 3) fun n230 =>
            sli Tryd.prog h21 102 v6 none (some (gv ws5 3)) none fun v60 =>
            calls rec h21 97 [v60, (.int .i64 n132)] fun v61 h32 =>
            asB v61 fun q50 =>
            ifB q50 (
              asI .i64 (gv ws0 4) fun n231 =>
              ifB (lt 0 n231) (
                out .ret [(.bool false), (.int .i64 0), gv ws5 2, gv ws5 3] h32) (
                len v6 fun n232 =>
                asI .i64 (gv ws5 3) fun n233 =>
                ifB (lt n233 (sub .i64 n232 1)) (
                  out .ret [(.bool false), (.int .i64 0), gv ws5 2, gv ws5 3] h32) (
                  asI .i64 (gv ws0 4) fun n234 =>
                  ifB (lt 0 n234) (
                    asI .i64 (gv ws0 3) fun n235 =>
                    nn n132 (
                      eqv Tryd.prog 4 (.bool (eq (and .i64 (shr .i64 n235 n132) 1) 1)) (.bool (eq n230 (sub .i64 n229 1))) fun q51 =>
                      ifB (not q51) (
                        out .ret [(.bool false), (.int .i64 0), gv ws5 2, gv ws5 3] h32) (
                        asI .i64 (gv ws5 3) fun n236 =>
                        out .normal [gv ws5 0, gv ws5 1, gv ws5 2, (.int .i64 (add .i64 n236 1))] h32))) (
                    asI .i64 (gv ws5 3) fun n237 =>
                    out .normal [gv ws5 0, gv ws5 1, gv ws5 2, (.int .i64 (add .i64 n237 1))] h32)))) (
              asI .i64 (gv ws0 4) fun n238 =>
              ifB (lt 0 n238) (
                asI .i64 (gv ws0 3) fun n239 =>
                nn n132 (
                  eqv Tryd.prog 4 (.bool (eq (and .i64 (shr .i64 n239 n132) 1) 1)) (.bool (eq n230 (sub .i64 n229 1))) fun q52 =>
                  ifB (not q52) (
                    out .ret [(.bool false), (.int .i64 0), gv ws5 2, gv ws5 3] h32) (
                    asI .i64 (gv ws5 3) fun n240 =>
                    out .normal [gv ws5 0, gv ws5 1, gv ws5 2, (.int .i64 (add .i64 n240 1))] h32))) (
                asI .i64 (gv ws5 3) fun n241 =>
                out .normal [gv ws5 0, gv ws5 1, gv ws5 2, (.int .i64 (add .i64 n241 1))] h32))))))) (
    out (.exit 2) [gv ws5 0, gv ws5 1, gv ws5 2, gv ws5 3] h20)

noncomputable def f54_l5 (_rec : Rec) (_k : Nat) (v6 : Value) (n242 : Int) (ws7 : List Value) (h34 : H) : Option (Ex × List Value × H) :=
  asI .i64 (gv ws7 1) fun n243 =>
  ifB (lt n243 n242) (
    asK (gv ws7 1) fun n244 =>
    six v6 n244 1 fun b24 b25 =>
    ld Tryd.prog h34 3 b24 b25 fun v62 =>
    asI .i64 v62 fun n245 =>
    nn n245 (
      asI .i64 (gv ws7 0) fun n246 =>
      asI .i64 (gv ws7 1) fun n247 =>
      out .normal [(.int .i64 (or .i64 n246 (shl .i64 1 n245))), (.int .i64 (add .i64 n247 1))] h34)) (
    out (.exit 4) [gv ws7 0, gv ws7 1] h34)

noncomputable def f54_l1 (rec : Rec) (k : Nat) (v1 : Value) (v3 : Value) (n0 : Int) (ws0 : List Value) (h3 : H) : Option (Ex × List Value × H) :=
  asI .i64 (gv ws0 4) fun n1 =>
  ifB (lt n1 n0) (
    asK (gv ws0 4) fun n2 =>
    six v1 n2 1 fun b0 b1 =>
    ld Tryd.prog h3 102 b0 b1 fun v6 =>
    len v6 fun n3 =>
    ifB (lt n3 2) (
      out .ret [(.bool false), (.int .i64 0), gv ws0 2, gv ws0 3, gv ws0 4] h3) (
      asI .i64 (gv ws0 4) fun n4 =>
      ifB (eq n4 0) (
        len v6 fun n5 =>
        ifB (lt n5 4) (
          out .ret [(.bool false), (.int .i64 0), gv ws0 2, gv ws0 3, gv ws0 4] h3) (
          six v6 0 1 fun b2 b3 =>
          ld Tryd.prog h3 3 b2 b3 fun v7 =>
          asI .i64 v7 fun n6 =>
          len v6 fun n7 =>
          six v6 (sub .i64 n7 1) 1 fun b4 b5 =>
          ld Tryd.prog h3 3 b4 b5 fun v8 =>
          asI .i64 v8 fun n8 =>
          ifB (not (eq n6 n8)) (
            out .ret [(.bool false), (.int .i64 0), gv ws0 2, gv ws0 3, gv ws0 4] h3) (
            len v6 fun n9 =>
            lp k (f54_l2 rec k v3 ws0 v6 n9) [gv ws0 0, gv ws0 1, gv ws0 2, (.int .i64 0)] h3 fun e0 ws2 h17 =>
            onE e0 2 (
              len v6 fun n122 =>
              lp k (f54_l3 rec k v6 n122) [gv ws0 3, (.int .i64 0)] h17 fun e1 ws4 h19 =>
              onE e1 4 (
                asI .i64 (gv ws0 4) fun n128 =>
                out .normal [gv ws2 0, gv ws2 1, gv ws2 2, gv ws4 0, (.int .i64 (add .i64 n128 1))] h19) (
                none)) (
              onR e0 (
                out .ret [gv ws2 0, gv ws2 1, gv ws2 2, gv ws0 3, gv ws0 4] h17))))) (
        len v6 fun n129 =>
        lp k (f54_l4 rec k v3 ws0 v6 n129) [gv ws0 0, gv ws0 1, gv ws0 2, (.int .i64 0)] h3 fun e2 ws6 h33 =>
        onE e2 2 (
          len v6 fun n242 =>
          lp k (f54_l5 rec k v6 n242) [gv ws0 3, (.int .i64 0)] h33 fun e3 ws8 h35 =>
          onE e3 4 (
            asI .i64 (gv ws0 4) fun n248 =>
            out .normal [gv ws6 0, gv ws6 1, gv ws6 2, gv ws8 0, (.int .i64 (add .i64 n248 1))] h35) (
            none)) (
          onR e2 (
            out .ret [gv ws6 0, gv ws6 1, gv ws6 2, gv ws0 3, gv ws0 4] h33))))) (
    out (.exit 0) [gv ws0 0, gv ws0 1, gv ws0 2, gv ws0 3, gv ws0 4] h3)

noncomputable def f54 (rec : Rec) (k : Nat) (v0 : Value) (v1 : Value) (h0 : H) : Option (Value × H) :=
  calls rec h0 63 [v0] fun v2 h1 =>
  ext v2 0 fun v3 =>
  ext v2 1 fun v4 =>
  asB v4 fun q0 =>
  ifB (not q0) (
    some ((.tuple #[(.bool false), (.int .i64 2)]), h1)) (
    calls rec h1 85 [v3] fun v5 h2 =>
    len v1 fun n0 =>
    lp k (f54_l1 rec k v1 v3 n0) [(.bool false), (.int .i64 0), v5, (.int .i64 0), (.int .i64 0)] h2 fun e4 ws9 h36 =>
    onE e4 0 (
      calls rec h36 65 [v3] fun v63 h37 =>
      asI .i64 v63 fun n249 =>
      asI .i64 (gv ws9 3) fun n250 =>
      ifB (eq n250 n249) (
        calls rec h37 77 [gv ws9 2] fun v64 h38 =>
        len v64 fun n251 =>
        some ((.tuple #[(.bool (eq n251 0)), (.int .i64 0)]), h38)) (
        some ((.tuple #[(.bool false), (.int .i64 0)]), h37))) (
      onR e4 (
        some ((.tuple #[gv ws9 0, gv ws9 1]), h36))))

theorem e54 (rec : Rec) (k : Nat) (v0 : Value) (v1 : Value) (h : H) : bodyT Tryd.prog E0 SC (XC Tryd.prog rec k) 54 (Value × H) [.opq v0, .opq v1] h (fun v h => some (v, h)) = f54 rec k v0 v1 h := by kernel_rfl

theorem t54 {k : Nat} {v0 : Value} {v1 : Value} {h h1 : H} {v : Value} (hh : f54 rn k v0 v1 h = some (v, h1)) : rn 54 #[v0, v1] h = some (v, trunc Tryd.prog h h1 v) :=
  run_of_bodyT (args := [.opq v0, .opq v1]) rfl ((e54 _ _ _ _ _).trans hh)

theorem p54 {k : Nat} {v0 : Value} {v1 : Value} {h h1 : H} {v : Value} (hh : f54 rn k v0 v1 h = some (v, h1)) (hp : plainO v = true) (x : Ext h h1) : rn 54 #[v0, v1] h = some (v, h) := by rw [t54 hh, trunc_pure hp x]

end Go.AM

end

section

/- The staged forms of functions 4, 23, 24, 25, 26, 69, 70, 71, 72, 73, 74, 77, 87, 102, 103, 115, and what calls of these answer. -/
namespace Go.AM
open Go.Proofs
noncomputable def f4 (rec : Rec) (_k : Nat) (v0 : Value) (h0 : H) : Option (Value × H) :=
  calls rec h0 18 [v0] fun v1 h1 =>
  calls rec h1 23 [v1] fun v2 h2 =>
  ext v2 0 fun v3 =>
  ext v2 1 fun v4 =>
  asI .i64 v4 fun n0 =>
  calls rec h2 18 [v0] fun v5 h3 =>
  calls rec h3 24 [v5] fun v6 h4 =>
  ext v6 0 fun v7 =>
  asI .i64 v7 fun n1 =>
  ext v6 1 fun v8 =>
  asI .i64 v8 fun n2 =>
  calls rec h4 19 [v0] fun v9 h5 =>
  asB v9 fun q0 =>
  ifB (not q0) (
    len v3 fun n3 =>
    ifB (eq n3 0) (
      ifB (eq n1 0) (
        ifB (eq n0 2) (
          ifB (eq n2 2) (
            calls rec h5 20 [] fun v10 h6 =>
            asB v10 fun q1 =>
            some ((.bool q1), h6)) (
            some ((.bool false), h5))) (
          some ((.bool false), h5))) (
        some ((.bool false), h5))) (
      some ((.bool false), h5))) (
    calls rec h5 25 [v0] fun v11 h7 =>
    calls rec h7 21 [v3, v11] fun v12 h8 =>
    asB v12 fun q2 =>
    ifB q2 (
      calls rec h8 26 [v0] fun v13 h9 =>
      asI .i64 v13 fun n4 =>
      ifB (eq n1 n4) (
        ifB (eq n0 0) (
          ifB (eq n2 0) (
            calls rec h9 20 [] fun v14 h10 =>
            asB v14 fun q3 =>
            some ((.bool q3), h10)) (
            some ((.bool false), h9))) (
          some ((.bool false), h9))) (
        some ((.bool false), h9))) (
      some ((.bool false), h8)))

theorem e4 (rec : Rec) (k : Nat) (v0 : Value) (h : H) : bodyT Tryd.prog E0 SC (XC Tryd.prog rec k) 4 (Value × H) [.opq v0] h (fun v h => some (v, h)) = f4 rec k v0 h := by kernel_rfl

theorem t4 {k : Nat} {v0 : Value} {h h1 : H} {v : Value} (hh : f4 rn k v0 h = some (v, h1)) : rn 4 #[v0] h = some (v, trunc Tryd.prog h h1 v) :=
  run_of_bodyT (args := [.opq v0]) rfl ((e4 _ _ _ _).trans hh)

theorem p4 {k : Nat} {v0 : Value} {h h1 : H} {v : Value} (hh : f4 rn k v0 h = some (v, h1)) (hp : plainO v = true) (x : Ext h h1) : rn 4 #[v0] h = some (v, h) := by rw [t4 hh, trunc_pure hp x]

theorem x4 {k : Nat} {v0 : Value} {h h1 : H} {v : Value} (hh : f4 rn k v0 h = some (v, h1)) (hp : plainO v = false) : ∃ h2, rn 4 #[v0] h = some (v, h2) ∧ Sm h1 h2 ∧ (Ext h h1 → Exw h h2) := trunc_cell hp (t4 hh)

noncomputable def f24 (rec : Rec) (_k : Nat) (v0 : Value) (h0 : H) : Option (Value × H) :=
  calls rec h0 63 [v0] fun v1 h1 =>
  ext v1 0 fun v2 =>
  ext v1 1 fun v3 =>
  asB v3 fun q0 =>
  ifB (not q0) (
    some ((.tuple #[(.int .i64 0), (.int .i64 2)]), h1)) (
    calls rec h1 65 [v2] fun v4 h2 =>
    asI .i64 v4 fun n0 =>
    calls rec h2 70 [v2, (.int .i64 n0)] fun v5 h3 =>
    asI .i64 v5 fun n1 =>
    some ((.tuple #[(.int .i64 n1), (.int .i64 0)]), h3))

theorem e24 (rec : Rec) (k : Nat) (v0 : Value) (h : H) : bodyT Tryd.prog E0 SC (XC Tryd.prog rec k) 24 (Value × H) [.opq v0] h (fun v h => some (v, h)) = f24 rec k v0 h := by kernel_rfl

theorem t24 {k : Nat} {v0 : Value} {h h1 : H} {v : Value} (hh : f24 rn k v0 h = some (v, h1)) : rn 24 #[v0] h = some (v, trunc Tryd.prog h h1 v) :=
  run_of_bodyT (args := [.opq v0]) rfl ((e24 _ _ _ _).trans hh)

theorem p24 {k : Nat} {v0 : Value} {h h1 : H} {v : Value} (hh : f24 rn k v0 h = some (v, h1)) (hp : plainO v = true) (x : Ext h h1) : rn 24 #[v0] h = some (v, h) := by rw [t24 hh, trunc_pure hp x]

noncomputable def f25_l1 (rec : Rec) (_k : Nat) (v0 : Value) (v1 : Value) (n0 : Int) (ws0 : List Value) (h2 : H) : Option (Ex × List Value × H) :=
  asI .i64 (gv ws0 1) fun n1 =>
  ifB (lt n1 n0) (
    asK (gv ws0 1) fun n2 =>
    six v1 n2 2 fun b0 b1 =>
    ld Tryd.prog h2 32 b0 b1 fun v2 =>
    al h2 32 [(.int .i64 0), (.int .i64 0)] fun h3 =>
    st Tryd.prog h3 32 (nx h2) 0 v2 fun h4 =>
    aix 2 0 (
      ld Tryd.prog h4 3 (nx h2) (at_ 0 0 1) fun v3 =>
      asI .i64 v3 fun n3 =>
      aix 2 1 (
        ld Tryd.prog h4 3 (nx h2) (at_ 0 1 1) fun v4 =>
        asI .i64 v4 fun n4 =>
        calls rec h4 73 [v0, (.int .i64 n3), (.int .i64 n4)] fun v5 h5 =>
        calls rec h5 68 [v0] fun v6 h6 =>
        asI .i64 v6 fun n5 =>
        aix 2 0 (
          ld Tryd.prog h6 3 (nx h2) (at_ 0 0 1) fun v7 =>
          asI .i64 v7 fun n6 =>
          ck (freq (nx h2) (nx h5) (same h6 h5)) (
            ck (freq (nx h2) (nx h4) (same h5 h4)) (
              aix 2 1 (
                ld Tryd.prog h6 3 (nx h2) (at_ 0 1 1) fun v8 =>
                asI .i64 v8 fun n7 =>
                ck (freq (nx h2) (nx h5) (same h6 h5)) (
                  ck (freq (nx h2) (nx h4) (same h5 h4)) (
                    calls rec h6 72 [v5, (.int .i64 n5), (.int .i64 n6), (.int .i64 n7)] fun v9 h7 =>
                    asB v9 fun q0 =>
                    ifB (not q0) (
                      ld Tryd.prog h7 32 (nx h2) 0 fun v10 =>
                      bls Tryd.prog h7 24 1 [(0, v10)] fun v11 h8 =>
                      app Tryd.prog h8 24 24 (gv ws0 0) v11 fun v12 h9 =>
                      asI .i64 (gv ws0 1) fun n8 =>
                      out .normal [v12, (.int .i64 (add .i64 n8 1))] h9) (
                      asI .i64 (gv ws0 1) fun n9 =>
                      out .normal [gv ws0 0, (.int .i64 (add .i64 n9 1))] h7)))))))))) (
    out (.exit 0) [gv ws0 0, gv ws0 1] h2)

noncomputable def f25 (rec : Rec) (k : Nat) (v0 : Value) (h0 : H) : Option (Value × H) :=
  calls rec h0 71 [v0] fun v1 h1 =>
  len v1 fun n0 =>
  lp k (f25_l1 rec k v0 v1 n0) [(.slice none 0 0), (.int .i64 0)] h1 fun e0 ws1 h10 =>
  onE e0 0 (
    some (gv ws1 0, h10)) (
    none)

theorem e25 (rec : Rec) (k : Nat) (v0 : Value) (h : H) : bodyT Tryd.prog E0 SC (XC Tryd.prog rec k) 25 (Value × H) [.opq v0] h (fun v h => some (v, h)) = f25 rec k v0 h := by kernel_rfl

theorem t25 {k : Nat} {v0 : Value} {h h1 : H} {v : Value} (hh : f25 rn k v0 h = some (v, h1)) : rn 25 #[v0] h = some (v, trunc Tryd.prog h h1 v) :=
  run_of_bodyT (args := [.opq v0]) rfl ((e25 _ _ _ _).trans hh)

theorem x25 {k : Nat} {v0 : Value} {h h1 : H} {v : Value} (hh : f25 rn k v0 h = some (v, h1)) (hp : plainO v = false) : ∃ h2, rn 25 #[v0] h = some (v, h2) ∧ Sm h1 h2 ∧ (Ext h h1 → Exw h h2) := trunc_cell hp (t25 hh)

noncomputable def f70_l1 (rec : Rec) (_k : Nat) (v0 : Value) (n0 : Int) (v1 : Value) (n1 : Int) (ws0 : List Value) (h2 : H) : Option (Ex × List Value × H) :=
  asI .i64 (gv ws0 1) fun n2 =>
  ifB (lt n2 n1) (
    asK (gv ws0 1) fun n3 =>
    six v1 n3 1 fun b0 b1 =>
    ld Tryd.prog h2 3 b0 b1 fun v2 =>
    asI .i64 v2 fun n4 =>
    calls rec h2 78 [v0, (.int .i64 n4), (.int .i64 n0)] fun v3 h3 =>
    asI .i64 v3 fun n5 =>
    nn n4 (
      calls rec h3 64 [v0, (.int .i64 (andNot .i64 n5 (shl .i64 1 n4)))] fun v4 h4 =>
      asB v4 fun q0 =>
      ifB (not q0) (
        nn n4 (
          asI .i64 (gv ws0 0) fun n6 =>
          asI .i64 (gv ws0 1) fun n7 =>
          out .normal [(.int .i64 (or .i64 n6 (shl .i64 1 n4))), (.int .i64 (add .i64 n7 1))] h4)) (
        asI .i64 (gv ws0 1) fun n8 =>
        out .normal [gv ws0 0, (.int .i64 (add .i64 n8 1))] h4))) (
    out (.exit 0) [gv ws0 0, gv ws0 1] h2)

noncomputable def f70 (rec : Rec) (k : Nat) (v0 : Value) (n0 : Int) (h0 : H) : Option (Value × H) :=
  calls rec h0 76 [(.int .i64 n0)] fun v1 h1 =>
  len v1 fun n1 =>
  lp k (f70_l1 rec k v0 n0 v1 n1) [(.int .i64 0), (.int .i64 0)] h1 fun e0 ws1 h5 =>
  onE e0 0 (
    some (gv ws1 0, h5)) (
    none)

theorem e70 (rec : Rec) (k : Nat) (v0 : Value) (n0 : Int) (h : H) : bodyT Tryd.prog E0 SC (XC Tryd.prog rec k) 70 (Value × H) [.opq v0, .int .i64 n0] h (fun v h => some (v, h)) = f70 rec k v0 n0 h := by kernel_rfl

theorem t70 {k : Nat} {v0 : Value} {n0 : Int} {h h1 : H} {v : Value} (hh : f70 rn k v0 n0 h = some (v, h1)) : rn 70 #[v0, .int .i64 n0] h = some (v, trunc Tryd.prog h h1 v) :=
  run_of_bodyT (args := [.opq v0, .int .i64 n0]) rfl ((e70 _ _ _ _ _).trans hh)

theorem p70 {k : Nat} {v0 : Value} {n0 : Int} {h h1 : H} {v : Value} (hh : f70 rn k v0 n0 h = some (v, h1)) (hp : plainO v = true) (x : Ext h h1) : rn 70 #[v0, .int .i64 n0] h = some (v, h) := by rw [t70 hh, trunc_pure hp x]

noncomputable def f71_l2 (_rec : Rec) (_k : Nat) (v0 : Value) (ws0 : List Value) (ws1 : List Value) (h2 : H) : Option (Ex × List Value × H) :=
  len v0 fun n3 =>
  asI .i64 (gv ws1 1) fun n4 =>
  ifB (lt n4 n3) (
    asK (gv ws0 1) fun n5 =>
    six v0 n5 1 fun b0 b1 =>
    ld Tryd.prog h2 3 b0 b1 fun v1 =>
    asI .i64 v1 fun n6 =>
    asK (gv ws1 1) fun n7 =>
    nn n7 (
      ifB (eq (and .i64 (shr .i64 n6 n7) 1) 1) (
        bld Tryd.prog 32 [(0, gv ws0 1), (1, gv ws1 1)] fun v2 =>
        bls Tryd.prog h2 24 1 [(0, v2)] fun v3 h3 =>
        app Tryd.prog h3 24 24 (gv ws1 0) v3 fun v4 h4 =>
        asI .i64 (gv ws1 1) fun n8 =>
        out .normal [v4, (.int .i64 (add .i64 n8 1))] h4) (
        asI .i64 (gv ws1 1) fun n9 =>
        out .normal [gv ws1 0, (.int .i64 (add .i64 n9 1))] h2))) (
    out (.exit 2) [gv ws1 0, gv ws1 1] h2)

noncomputable def f71_l1 (rec : Rec) (k : Nat) (v0 : Value) (n0 : Int) (ws0 : List Value) (h1 : H) : Option (Ex × List Value × H) :=
  asI .i64 (gv ws0 1) fun n1 =>
  ifB (lt n1 n0) (
    asI .i64 (gv ws0 1) fun n2 =>
    lp k (f71_l2 rec k v0 ws0) [gv ws0 0, (.int .i64 (add .i64 n2 1))] h1 fun e0 ws2 h5 =>
    onE e0 2 (
      asI .i64 (gv ws0 1) fun n10 =>
      out .normal [gv ws2 0, (.int .i64 (add .i64 n10 1))] h5) (
      none)) (
    out (.exit 0) [gv ws0 0, gv ws0 1] h1)

noncomputable def f71 (rec : Rec) (k : Nat) (v0 : Value) (h0 : H) : Option (Value × H) :=
  len v0 fun n0 =>
  lp k (f71_l1 rec k v0 n0) [(.slice none 0 0), (.int .i64 0)] h0 fun e1 ws3 h6 =>
  onE e1 0 (
    some (gv ws3 0, h6)) (
    none)

theorem e71 (rec : Rec) (k : Nat) (v0 : Value) (h : H) : bodyT Tryd.prog E0 SC (XC Tryd.prog rec k) 71 (Value × H) [.opq v0] h (fun v h => some (v, h)) = f71 rec k v0 h := by kernel_rfl

theorem t71 {k : Nat} {v0 : Value} {h h1 : H} {v : Value} (hh : f71 rn k v0 h = some (v, h1)) : rn 71 #[v0] h = some (v, trunc Tryd.prog h h1 v) :=
  run_of_bodyT (args := [.opq v0]) rfl ((e71 _ _ _ _).trans hh)

theorem x71 {k : Nat} {v0 : Value} {h h1 : H} {v : Value} (hh : f71 rn k v0 h = some (v, h1)) (hp : plainO v = false) : ∃ h2, rn 71 #[v0] h = some (v, h2) ∧ Sm h1 h2 ∧ (Ext h h1 → Exw h h2) := trunc_cell hp (t71 hh)

noncomputable def f72 (rec : Rec) (_k : Nat) (v0 : Value) (n0 : Int) (n1 : Int) (n2 : Int) (h0 : H) : Option (Value × H) :=
  calls rec h0 33 [v0, (.int .i64 n0), (.int .i64 n1)] fun v1 h1 =>
  asI .i64 v1 fun n3 =>
  nn n2 (
    some ((.bool (eq (and .i64 (shr .i64 n3 n2) 1) 1)), h1))

theorem e72 (rec : Rec) (k : Nat) (v0 : Value) (n0 : Int) (n1 : Int) (n2 : Int) (h : H) : bodyT Tryd.prog E0 SC (XC Tryd.prog rec k) 72 (Value × H) [.opq v0, .int .i64 n0, .int .i64 n1, .int .i64 n2] h (fun v h => some (v, h)) = f72 rec k v0 n0 n1 n2 h := by kernel_rfl

theorem t72 {k : Nat} {v0 : Value} {n0 : Int} {n1 : Int} {n2 : Int} {h h1 : H} {v : Value} (hh : f72 rn k v0 n0 n1 n2 h = some (v, h1)) : rn 72 #[v0, .int .i64 n0, .int .i64 n1, .int .i64 n2] h = some (v, trunc Tryd.prog h h1 v) :=
  run_of_bodyT (args := [.opq v0, .int .i64 n0, .int .i64 n1, .int .i64 n2]) rfl ((e72 _ _ _ _ _ _ _).trans hh)

theorem p72 {k : Nat} {v0 : Value} {n0 : Int} {n1 : Int} {n2 : Int} {h h1 : H} {v : Value} (hh : f72 rn k v0 n0 n1 n2 h = some (v, h1)) (hp : plainO v = true) (x : Ext h h1) : rn 72 #[v0, .int .i64 n0, .int .i64 n1, .int .i64 n2] h = some (v, h) := by rw [t72 hh, trunc_pure hp x]

noncomputable def f73 (_rec : Rec) (_k : Nat) (v0 : Value) (n0 : Int) (n1 : Int) (h0 : H) : Option (Value × H) :=
  bls Tryd.prog h0 23 0 [] fun v1 h1 =>
  app Tryd.prog h1 23 23 v1 v0 fun v2 h2 =>
  six v2 n0 1 fun b0 b1 =>
  ld Tryd.prog h2 3 b0 b1 fun v3 =>
  asI .i64 v3 fun n2 =>
  nn n1 (
    six v2 n0 1 fun b2 b3 =>
    st Tryd.prog h2 3 b2 b3 (.int .i64 (andNot .i64 n2 (shl .i64 1 n1))) fun h3 =>
    six v2 n1 1 fun b4 b5 =>
    ld Tryd.prog h3 3 b4 b5 fun v4 =>
    asI .i64 v4 fun n3 =>
    nn n0 (
      six v2 n1 1 fun b6 b7 =>
      st Tryd.prog h3 3 b6 b7 (.int .i64 (andNot .i64 n3 (shl .i64 1 n0))) fun h4 =>
      some (v2, h4)))

theorem e73 (rec : Rec) (k : Nat) (v0 : Value) (n0 : Int) (n1 : Int) (h : H) : bodyT Tryd.prog E0 SC (XC Tryd.prog rec k) 73 (Value × H) [.opq v0, .int .i64 n0, .int .i64 n1] h (fun v h => some (v, h)) = f73 rec k v0 n0 n1 h := by kernel_rfl

theorem t73 {k : Nat} {v0 : Value} {n0 : Int} {n1 : Int} {h h1 : H} {v : Value} (hh : f73 rn k v0 n0 n1 h = some (v, h1)) : rn 73 #[v0, .int .i64 n0, .int .i64 n1] h = some (v, trunc Tryd.prog h h1 v) :=
  run_of_bodyT (args := [.opq v0, .int .i64 n0, .int .i64 n1]) rfl ((e73 _ _ _ _ _ _).trans hh)

theorem x73 {k : Nat} {v0 : Value} {n0 : Int} {n1 : Int} {h h1 : H} {v : Value} (hh : f73 rn k v0 n0 n1 h = some (v, h1)) (hp : plainO v = false) : ∃ h2, rn 73 #[v0, .int .i64 n0, .int .i64 n1] h = some (v, h2) ∧ Sm h1 h2 ∧ (Ext h h1 → Exw h h2) := trunc_cell hp (t73 hh)

noncomputable def f77_l2 (_rec : Rec) (_k : Nat) (ws0 : List Value) (v2 : Value) (n4 : Int) (ws1 : List Value) (h3 : H) : Option (Ex × List Value × H) :=
  asI .i64 (gv ws1 1) fun n5 =>
  ifB (lt n5 n4) (
    asK (gv ws1 1) fun n6 =>
    six v2 n6 1 fun b2 b3 =>
    ld Tryd.prog h3 3 b2 b3 fun v3 =>
    asI .i64 v3 fun n7 =>
    asI .i64 (gv ws0 1) fun n8 =>
    ifB (lt n8 n7) (
      bld Tryd.prog 32 [(0, gv ws0 1), (1, (.int .i64 n7))] fun v4 =>
      bls Tryd.prog h3 24 1 [(0, v4)] fun v5 h4 =>
      app Tryd.prog h4 24 24 (gv ws1 0) v5 fun v6 h5 =>
      asI .i64 (gv ws1 1) fun n9 =>
      out .normal [v6, (.int .i64 (add .i64 n9 1))] h5) (
      asI .i64 (gv ws1 1) fun n10 =>
      out .normal [gv ws1 0, (.int .i64 (add .i64 n10 1))] h3)) (
    out (.exit 2) [gv ws1 0, gv ws1 1] h3)

noncomputable def f77_l1 (rec : Rec) (k : Nat) (v0 : Value) (n0 : Int) (ws0 : List Value) (h1 : H) : Option (Ex × List Value × H) :=
  asI .i64 (gv ws0 1) fun n1 =>
  ifB (lt n1 n0) (
    asK (gv ws0 1) fun n2 =>
    six v0 n2 1 fun b0 b1 =>
    ld Tryd.prog h1 3 b0 b1 fun v1 =>
    asI .i64 v1 fun n3 =>
    calls rec h1 76 [(.int .i64 n3)] fun v2 h2 =>
    len v2 fun n4 =>
    lp k (f77_l2 rec k ws0 v2 n4) [gv ws0 0, (.int .i64 0)] h2 fun e0 ws2 h6 =>
    onE e0 2 (
      asI .i64 (gv ws0 1) fun n11 =>
      out .normal [gv ws2 0, (.int .i64 (add .i64 n11 1))] h6) (
      none)) (
    out (.exit 0) [gv ws0 0, gv ws0 1] h1)

noncomputable def f77 (rec : Rec) (k : Nat) (v0 : Value) (h0 : H) : Option (Value × H) :=
  len v0 fun n0 =>
  lp k (f77_l1 rec k v0 n0) [(.slice none 0 0), (.int .i64 0)] h0 fun e1 ws3 h7 =>
  onE e1 0 (
    some (gv ws3 0, h7)) (
    none)

theorem e77 (rec : Rec) (k : Nat) (v0 : Value) (h : H) : bodyT Tryd.prog E0 SC (XC Tryd.prog rec k) 77 (Value × H) [.opq v0] h (fun v h => some (v, h)) = f77 rec k v0 h := by kernel_rfl

theorem t77 {k : Nat} {v0 : Value} {h h1 : H} {v : Value} (hh : f77 rn k v0 h = some (v, h1)) : rn 77 #[v0] h = some (v, trunc Tryd.prog h h1 v) :=
  run_of_bodyT (args := [.opq v0]) rfl ((e77 _ _ _ _).trans hh)

theorem x77 {k : Nat} {v0 : Value} {h h1 : H} {v : Value} (hh : f77 rn k v0 h = some (v, h1)) (hp : plainO v = false) : ∃ h2, rn 77 #[v0] h = some (v, h2) ∧ Sm h1 h2 ∧ (Ext h h1 → Exw h h2) := trunc_cell hp (t77 hh)

noncomputable def f87 (rec : Rec) (_k : Nat) (v0 : Value) (v1 : Value) (h0 : H) : Option (Value × H) :=
  bx h0 32 v1 fun h1 =>
  calls rec h1 85 [v0] fun v2 h2 =>
  aix 2 0 (
    ld Tryd.prog h2 3 (nx h0) (at_ 0 0 1) fun v3 =>
    asI .i64 v3 fun n0 =>
    six v2 n0 1 fun b0 b1 =>
    ld Tryd.prog h2 3 b0 b1 fun v4 =>
    asI .i64 v4 fun n1 =>
    aix 2 1 (
      ld Tryd.prog h2 3 (nx h0) (at_ 0 1 1) fun v5 =>
      asI .i64 v5 fun n2 =>
      nn n2 (
        six v2 n0 1 fun b2 b3 =>
        st Tryd.prog h2 3 b2 b3 (.int .i64 (andNot .i64 n1 (shl .i64 1 n2))) fun h3 =>
        aix 2 1 (
          ld Tryd.prog h3 3 (nx h0) (at_ 0 1 1) fun v6 =>
          asI .i64 v6 fun n3 =>
          six v2 n3 1 fun b4 b5 =>
          ld Tryd.prog h3 3 b4 b5 fun v7 =>
          asI .i64 v7 fun n4 =>
          aix 2 0 (
            ld Tryd.prog h3 3 (nx h0) (at_ 0 0 1) fun v8 =>
            asI .i64 v8 fun n5 =>
            nn n5 (
              six v2 n3 1 fun b6 b7 =>
              st Tryd.prog h3 3 b6 b7 (.int .i64 (andNot .i64 n4 (shl .i64 1 n5))) fun h4 =>
              some (v2, h4)))))))

theorem e87 (rec : Rec) (k : Nat) (v0 : Value) (v1 : Value) (h : H) : bodyT Tryd.prog E0 SC (XC Tryd.prog rec k) 87 (Value × H) [.opq v0, .opq v1] h (fun v h => some (v, h)) = f87 rec k v0 v1 h := by kernel_rfl

theorem t87 {k : Nat} {v0 : Value} {v1 : Value} {h h1 : H} {v : Value} (hh : f87 rn k v0 v1 h = some (v, h1)) : rn 87 #[v0, v1] h = some (v, trunc Tryd.prog h h1 v) :=
  run_of_bodyT (args := [.opq v0, .opq v1]) rfl ((e87 _ _ _ _ _).trans hh)

theorem x87 {k : Nat} {v0 : Value} {v1 : Value} {h h1 : H} {v : Value} (hh : f87 rn k v0 v1 h = some (v, h1)) (hp : plainO v = false) : ∃ h2, rn 87 #[v0, v1] h = some (v, h2) ∧ Sm h1 h2 ∧ (Ext h h1 → Exw h h2) := trunc_cell hp (t87 hh)

end Go.AM

end

section

/- The staged forms of functions 3, 17, 21, 22, and what calls of these answer. -/
namespace Go.AM
open Go.Proofs
noncomputable def f3 (rec : Rec) (_k : Nat) (v0 : Value) (h0 : H) : Option (Value × H) :=
  calls rec h0 18 [v0] fun v1 h1 =>
  calls rec h1 17 [v1] fun v2 h2 =>
  ext v2 0 fun v3 =>
  ext v2 1 fun v4 =>
  asI .i64 v4 fun n0 =>
  calls rec h2 19 [v0] fun v5 h3 =>
  asB v5 fun q0 =>
  ifB (not q0) (
    len v3 fun n1 =>
    ifB (eq n1 0) (
      ifB (eq n0 2) (
        calls rec h3 20 [] fun v6 h4 =>
        asB v6 fun q1 =>
        some ((.bool q1), h4)) (
        some ((.bool false), h3))) (
      some ((.bool false), h3))) (
    calls rec h3 22 [v0] fun v7 h5 =>
    calls rec h5 21 [v3, v7] fun v8 h6 =>
    asB v8 fun q2 =>
    ifB q2 (
      ifB (eq n0 0) (
        calls rec h6 20 [] fun v9 h7 =>
        asB v9 fun q3 =>
        some ((.bool q3), h7)) (
        some ((.bool false), h6))) (
      some ((.bool false), h6)))

theorem e3 (rec : Rec) (k : Nat) (v0 : Value) (h : H) : bodyT Tryd.prog E0 SC (XC Tryd.prog rec k) 3 (Value × H) [.opq v0] h (fun v h => some (v, h)) = f3 rec k v0 h := by kernel_rfl

theorem t3 {k : Nat} {v0 : Value} {h h1 : H} {v : Value} (hh : f3 rn k v0 h = some (v, h1)) : rn 3 #[v0] h = some (v, trunc Tryd.prog h h1 v) :=
  run_of_bodyT (args := [.opq v0]) rfl ((e3 _ _ _ _).trans hh)

theorem p3 {k : Nat} {v0 : Value} {h h1 : H} {v : Value} (hh : f3 rn k v0 h = some (v, h1)) (hp : plainO v = true) (x : Ext h h1) : rn 3 #[v0] h = some (v, h) := by rw [t3 hh, trunc_pure hp x]

theorem x3 {k : Nat} {v0 : Value} {h h1 : H} {v : Value} (hh : f3 rn k v0 h = some (v, h1)) (hp : plainO v = false) : ∃ h2, rn 3 #[v0] h = some (v, h2) ∧ Sm h1 h2 ∧ (Ext h h1 → Exw h h2) := trunc_cell hp (t3 hh)

noncomputable def f17_l2 (rec : Rec) (_k : Nat) (v2 : Value) (ws0 : List Value) (ws1 : List Value) (h3 : H) : Option (Ex × List Value × H) :=
  len v2 fun n3 =>
  asI .i64 (gv ws1 1) fun n4 =>
  ifB (lt n4 n3) (
    calls rec h3 65 [v2] fun v4 h4 =>
    asI .i64 v4 fun n5 =>
    calls rec h4 64 [v2, (.int .i64 n5)] fun v5 h5 =>
    asB v5 fun q1 =>
    ifB q1 (
      calls rec h5 65 [v2] fun v6 h6 =>
      asI .i64 v6 fun n6 =>
      asK (gv ws0 1) fun n7 =>
      nn n7 (
        asK (gv ws1 1) fun n8 =>
        nn n8 (
          calls rec h6 64 [v2, (.int .i64 (andNot .i64 (andNot .i64 n6 (shl .i64 1 n7)) (shl .i64 1 n8)))] fun v7 h7 =>
          asB v7 fun q2 =>
          ifB (not q2) (
            bld Tryd.prog 32 [(0, gv ws0 1), (1, gv ws1 1)] fun v8 =>
            bls Tryd.prog h7 24 1 [(0, v8)] fun v9 h8 =>
            app Tryd.prog h8 24 24 (gv ws1 0) v9 fun v10 h9 =>
            asI .i64 (gv ws1 1) fun n9 =>
            out .normal [v10, (.int .i64 (add .i64 n9 1))] h9) (
            asI .i64 (gv ws1 1) fun n10 =>
            out .normal [gv ws1 0, (.int .i64 (add .i64 n10 1))] h7)))) (
      asI .i64 (gv ws1 1) fun n11 =>
      out .normal [gv ws1 0, (.int .i64 (add .i64 n11 1))] h5)) (
    out (.exit 2) [gv ws1 0, gv ws1 1] h3)

noncomputable def f17_l1 (rec : Rec) (k : Nat) (v2 : Value) (n0 : Int) (ws0 : List Value) (h2 : H) : Option (Ex × List Value × H) :=
  asI .i64 (gv ws0 1) fun n1 =>
  ifB (lt n1 n0) (
    asI .i64 (gv ws0 1) fun n2 =>
    lp k (f17_l2 rec k v2 ws0) [gv ws0 0, (.int .i64 (add .i64 n2 1))] h2 fun e0 ws2 h10 =>
    onE e0 2 (
      asI .i64 (gv ws0 1) fun n12 =>
      out .normal [gv ws2 0, (.int .i64 (add .i64 n12 1))] h10) (
      none)) (
    out (.exit 0) [gv ws0 0, gv ws0 1] h2)

noncomputable def f17 (rec : Rec) (k : Nat) (v0 : Value) (h0 : H) : Option (Value × H) :=
  calls rec h0 63 [v0] fun v1 h1 =>
  ext v1 0 fun v2 =>
  ext v1 1 fun v3 =>
  asB v3 fun q0 =>
  ifB (not q0) (
    some ((.tuple #[(.slice none 0 0), (.int .i64 2)]), h1)) (
    len v2 fun n0 =>
    lp k (f17_l1 rec k v2 n0) [(.slice none 0 0), (.int .i64 0)] h1 fun e1 ws3 h11 =>
    onE e1 0 (
      some ((.tuple #[gv ws3 0, (.int .i64 0)]), h11)) (
      none))

theorem e17 (rec : Rec) (k : Nat) (v0 : Value) (h : H) : bodyT Tryd.prog E0 SC (XC Tryd.prog rec k) 17 (Value × H) [.opq v0] h (fun v h => some (v, h)) = f17 rec k v0 h := by kernel_rfl

theorem t17 {k : Nat} {v0 : Value} {h h1 : H} {v : Value} (hh : f17 rn k v0 h = some (v, h1)) : rn 17 #[v0] h = some (v, trunc Tryd.prog h h1 v) :=
  run_of_bodyT (args := [.opq v0]) rfl ((e17 _ _ _ _).trans hh)

theorem x17 {k : Nat} {v0 : Value} {h h1 : H} {v : Value} (hh : f17 rn k v0 h = some (v, h1)) (hp : plainO v = false) : ∃ h2, rn 17 #[v0] h = some (v, h2) ∧ Sm h1 h2 ∧ (Ext h h1 → Exw h h2) := trunc_cell hp (t17 hh)

theorem y17 {k : Nat} {v0 : Value} {h : H} {v : Value} (hh : f17 rn k v0 h = some (v, h)) : rn 17 #[v0] h = some (v, h) := by rw [t17 hh, trunc_self]

noncomputable def f21_l1 (_rec : Rec) (_k : Nat) (v0 : Value) (v1 : Value) (n2 : Int) (ws0 : List Value) (h1 : H) : Option (Ex × List Value × H) :=
  asI .i64 (gv ws0 1) fun n3 =>
  ifB (lt n3 n2) (
    asK (gv ws0 1) fun n4 =>
    six v0 n4 2 fun b0 b1 =>
    ld Tryd.prog h1 32 b0 b1 fun v2 =>
    asK (gv ws0 1) fun n5 =>
    six v1 n5 2 fun b2 b3 =>
    ld Tryd.prog h1 32 b2 b3 fun v3 =>
    eqv Tryd.prog 32 v2 v3 fun q0 =>
    ifB (not q0) (
      out .ret [(.bool false), gv ws0 1] h1) (
      asI .i64 (gv ws0 1) fun n6 =>
      out .normal [gv ws0 0, (.int .i64 (add .i64 n6 1))] h1)) (
    out (.exit 0) [gv ws0 0, gv ws0 1] h1)

noncomputable def f21 (rec : Rec) (k : Nat) (v0 : Value) (v1 : Value) (h0 : H) : Option (Value × H) :=
  len v0 fun n0 =>
  len v1 fun n1 =>
  ifB (not (eq n0 n1)) (
    some ((.bool false), h0)) (
    len v0 fun n2 =>
    lp k (f21_l1 rec k v0 v1 n2) [(.bool false), (.int .i64 0)] h0 fun e0 ws1 h2 =>
    onE e0 0 (
      some ((.bool true), h2)) (
      onR e0 (
        some (gv ws1 0, h2))))

theorem e21 (rec : Rec) (k : Nat) (v0 : Value) (v1 : Value) (h : H) : bodyT Tryd.prog E0 SC (XC Tryd.prog rec k) 21 (Value × H) [.opq v0, .opq v1] h (fun v h => some (v, h)) = f21 rec k v0 v1 h := by kernel_rfl

theorem t21 {k : Nat} {v0 : Value} {v1 : Value} {h h1 : H} {v : Value} (hh : f21 rn k v0 v1 h = some (v, h1)) : rn 21 #[v0, v1] h = some (v, trunc Tryd.prog h h1 v) :=
  run_of_bodyT (args := [.opq v0, .opq v1]) rfl ((e21 _ _ _ _ _).trans hh)

theorem p21 {k : Nat} {v0 : Value} {v1 : Value} {h h1 : H} {v : Value} (hh : f21 rn k v0 v1 h = some (v, h1)) (hp : plainO v = true) (x : Ext h h1) : rn 21 #[v0, v1] h = some (v, h) := by rw [t21 hh, trunc_pure hp x]

noncomputable def f22_l2 (rec : Rec) (_k : Nat) (v0 : Value) (ws0 : List Value) (ws1 : List Value) (h4 : H) : Option (Ex × List Value × H) :=
  len v0 fun n4 =>
  asI .i64 (gv ws1 1) fun n5 =>
  ifB (lt n5 n4) (
    calls rec h4 68 [v0] fun v3 h5 =>
    asI .i64 v3 fun n6 =>
    asK (gv ws0 1) fun n7 =>
    nn n7 (
      asK (gv ws1 1) fun n8 =>
      nn n8 (
        ifB (not (eq (andNot .i64 (andNot .i64 n6 (shl .i64 1 n7)) (shl .i64 1 n8)) 0)) (
          calls rec h5 67 [v0, (.int .i64 (andNot .i64 (andNot .i64 n6 (shl .i64 1 n7)) (shl .i64 1 n8)))] fun v4 h6 =>
          asB v4 fun q1 =>
          ifB (not q1) (
            bld Tryd.prog 32 [(0, gv ws0 1), (1, gv ws1 1)] fun v5 =>
            bls Tryd.prog h6 24 1 [(0, v5)] fun v6 h7 =>
            app Tryd.prog h7 24 24 (gv ws1 0) v6 fun v7 h8 =>
            asI .i64 (gv ws1 1) fun n9 =>
            out .normal [v7, (.int .i64 (add .i64 n9 1))] h8) (
            asI .i64 (gv ws1 1) fun n10 =>
            out .normal [gv ws1 0, (.int .i64 (add .i64 n10 1))] h6)) (
          asI .i64 (gv ws1 1) fun n11 =>
          out .normal [gv ws1 0, (.int .i64 (add .i64 n11 1))] h5)))) (
    out (.exit 2) [gv ws1 0, gv ws1 1] h4)

noncomputable def f22_l1 (rec : Rec) (k : Nat) (v0 : Value) (n1 : Int) (ws0 : List Value) (h3 : H) : Option (Ex × List Value × H) :=
  asI .i64 (gv ws0 1) fun n2 =>
  ifB (lt n2 n1) (
    asI .i64 (gv ws0 1) fun n3 =>
    lp k (f22_l2 rec k v0 ws0) [gv ws0 0, (.int .i64 (add .i64 n3 1))] h3 fun e0 ws2 h9 =>
    onE e0 2 (
      asI .i64 (gv ws0 1) fun n12 =>
      out .normal [gv ws2 0, (.int .i64 (add .i64 n12 1))] h9) (
      none)) (
    out (.exit 0) [gv ws0 0, gv ws0 1] h3)

noncomputable def f22 (rec : Rec) (k : Nat) (v0 : Value) (h0 : H) : Option (Value × H) :=
  calls rec h0 68 [v0] fun v1 h1 =>
  asI .i64 v1 fun n0 =>
  calls rec h1 67 [v0, (.int .i64 n0)] fun v2 h2 =>
  asB v2 fun q0 =>
  ifB (not q0) (
    some ((.slice none 0 0), h2)) (
    len v0 fun n1 =>
    lp k (f22_l1 rec k v0 n1) [(.slice none 0 0), (.int .i64 0)] h2 fun e1 ws3 h10 =>
    onE e1 0 (
      some (gv ws3 0, h10)) (
      none))

theorem e22 (rec : Rec) (k : Nat) (v0 : Value) (h : H) : bodyT Tryd.prog E0 SC (XC Tryd.prog rec k) 22 (Value × H) [.opq v0] h (fun v h => some (v, h)) = f22 rec k v0 h := by kernel_rfl

theorem t22 {k : Nat} {v0 : Value} {h h1 : H} {v : Value} (hh : f22 rn k v0 h = some (v, h1)) : rn 22 #[v0] h = some (v, trunc Tryd.prog h h1 v) :=
  run_of_bodyT (args := [.opq v0]) rfl ((e22 _ _ _ _).trans hh)

theorem x22 {k : Nat} {v0 : Value} {h h1 : H} {v : Value} (hh : f22 rn k v0 h = some (v, h1)) (hp : plainO v = false) : ∃ h2, rn 22 #[v0] h = some (v, h2) ∧ Sm h1 h2 ∧ (Ext h h1 → Exw h h2) := trunc_cell hp (t22 hh)

theorem y22 {k : Nat} {v0 : Value} {h : H} {v : Value} (hh : f22 rn k v0 h = some (v, h)) : rn 22 #[v0] h = some (v, h) := by rw [t22 hh, trunc_self]

end Go.AM

end

section

/- The staged forms of functions 18, 19, 52, 63, 66, 65, 68, 76, 78, 64, 33, 67, 83, 85, 79, 80, and what calls of these answer. -/
namespace Go.AM
open Go.Proofs
noncomputable def f18 (rec : Rec) (_k : Nat) (v0 : Value) (h0 : H) : Option (Value × H) :=
  len v0 fun n0 =>
  sli Tryd.prog h0 23 v0 none (some (.int .i64 (imin n0 14))) none fun v1 =>
  calls rec h0 52 [v1] fun v2 h1 =>
  some (v2, h1)

theorem e18 (rec : Rec) (k : Nat) (v0 : Value) (h : H) : bodyT Tryd.prog E0 SC (XC Tryd.prog rec k) 18 (Value × H) [.opq v0] h (fun v h => some (v, h)) = f18 rec k v0 h := by kernel_rfl

theorem t18 {k : Nat} {v0 : Value} {h h1 : H} {v : Value} (hh : f18 rn k v0 h = some (v, h1)) : rn 18 #[v0] h = some (v, trunc Tryd.prog h h1 v) :=
  run_of_bodyT (args := [.opq v0]) rfl ((e18 _ _ _ _).trans hh)

theorem x18 {k : Nat} {v0 : Value} {h h1 : H} {v : Value} (hh : f18 rn k v0 h = some (v, h1)) (hp : plainO v = false) : ∃ h2, rn 18 #[v0] h = some (v, h2) ∧ Sm h1 h2 ∧ (Ext h h1 → Exw h h2) := trunc_cell hp (t18 hh)

noncomputable def f19 (rec : Rec) (_k : Nat) (v0 : Value) (h0 : H) : Option (Value × H) :=
  calls rec h0 66 [v0, (.int .i64 10)] fun v1 h1 =>
  asB v1 fun q0 =>
  some ((.bool q0), h1)

theorem e19 (rec : Rec) (k : Nat) (v0 : Value) (h : H) : bodyT Tryd.prog E0 SC (XC Tryd.prog rec k) 19 (Value × H) [.opq v0] h (fun v h => some (v, h)) = f19 rec k v0 h := by kernel_rfl

theorem t19 {k : Nat} {v0 : Value} {h h1 : H} {v : Value} (hh : f19 rn k v0 h = some (v, h1)) : rn 19 #[v0] h = some (v, trunc Tryd.prog h h1 v) :=
  run_of_bodyT (args := [.opq v0]) rfl ((e19 _ _ _ _).trans hh)

theorem p19 {k : Nat} {v0 : Value} {h h1 : H} {v : Value} (hh : f19 rn k v0 h = some (v, h1)) (hp : plainO v = true) (x : Ext h h1) : rn 19 #[v0] h = some (v, h) := by rw [t19 hh, trunc_pure hp x]

noncomputable def f52 (_rec : Rec) (_k : Nat) (v0 : Value) (h0 : H) : Option (Value × H) :=
  eqv Tryd.prog 23 v0 (.slice none 0 0) fun q0 =>
  ifB q0 (
    some ((.slice none 0 0), h0)) (
    bls Tryd.prog h0 23 0 [] fun v1 h1 =>
    app Tryd.prog h1 23 23 v1 v0 fun v2 h2 =>
    some (v2, h2))

theorem e52 (rec : Rec) (k : Nat) (v0 : Value) (h : H) : bodyT Tryd.prog E0 SC (XC Tryd.prog rec k) 52 (Value × H) [.opq v0] h (fun v h => some (v, h)) = f52 rec k v0 h := by kernel_rfl

theorem t52 {k : Nat} {v0 : Value} {h h1 : H} {v : Value} (hh : f52 rn k v0 h = some (v, h1)) : rn 52 #[v0] h = some (v, trunc Tryd.prog h h1 v) :=
  run_of_bodyT (args := [.opq v0]) rfl ((e52 _ _ _ _).trans hh)

theorem x52 {k : Nat} {v0 : Value} {h h1 : H} {v : Value} (hh : f52 rn k v0 h = some (v, h1)) (hp : plainO v = false) : ∃ h2, rn 52 #[v0] h = some (v, h2) ∧ Sm h1 h2 ∧ (Ext h h1 → Exw h h2) := trunc_cell hp (t52 hh)

noncomputable def f63_l2 (_rec : Rec) (_k : Nat) (v0 : Value) (n0 : Int) (ws0 : List Value) (n4 : Int) (ws1 : List Value) (h2 : H) : Option (Ex × List Value × H) :=
  asI .i64 (gv ws1 2) fun n6 =>
  ifB (lt n6 n0) (
    asK (gv ws1 2) fun n7 =>
    nn n7 (
      asK (gv ws1 2) fun n8 =>
      six v0 n8 1 fun b2 b3 =>
      ld Tryd.prog h2 3 b2 b3 fun v2 =>
      asI .i64 v2 fun n9 =>
      asK (gv ws0 2) fun n10 =>
      nn n10 (
        ifB (not (eq (and .i64 (shr .i64 n4 n7) 1) (and .i64 (shr .i64 n9 n10) 1))) (
          out .ret [(.slice none 0 0), (.bool false), gv ws1 2] h2) (
          asI .i64 (gv ws1 2) fun n11 =>
          out .normal [gv ws1 0, gv ws1 1, (.int .i64 (add .i64 n11 1))] h2)))) (
    out (.exit 2) [gv ws1 0, gv ws1 1, gv ws1 2] h2)

noncomputable def f63_l1 (rec : Rec) (k : Nat) (v0 : Value) (n0 : Int) (n1 : Int) (ws0 : List Value) (h1 : H) : Option (Ex × List Value × H) :=
  asI .i64 (gv ws0 2) fun n2 =>
  ifB (lt n2 n1) (
    asK (gv ws0 2) fun n3 =>
    six v0 n3 1 fun b0 b1 =>
    ld Tryd.prog h1 3 b0 b1 fun v1 =>
    asI .i64 v1 fun n4 =>
    ifB (lt n4 0) (
      out .ret [(.slice none 0 0), (.bool false), gv ws0 2] h1) (
      nn n0 (
        ifB (le (shl .i64 1 n0) n4) (
          out .ret [(.slice none 0 0), (.bool false), gv ws0 2] h1) (
          asK (gv ws0 2) fun n5 =>
          nn n5 (
            ifB (eq (and .i64 (shr .i64 n4 n5) 1) 1) (
              out .ret [(.slice none 0 0), (.bool false), gv ws0 2] h1) (
              lp k (f63_l2 rec k v0 n0 ws0 n4) [gv ws0 0, gv ws0 1, (.int .i64 0)] h1 fun e0 ws2 h3 =>
              onE e0 2 (
                asI .i64 (gv ws0 2) fun n12 =>
                out .normal [gv ws2 0, gv ws2 1, (.int .i64 (add .i64 n12 1))] h3) (
                onR e0 (
                  out .ret [gv ws2 0, gv ws2 1, gv ws0 2] h3)))))))) (
    out (.exit 0) [gv ws0 0, gv ws0 1, gv ws0 2] h1)

noncomputable def f63 (rec : Rec) (k : Nat) (v0 : Value) (h0 : H) : Option (Value × H) :=
  len v0 fun n0 =>
  ifB (lt n0 1) (
    some ((.tuple #[(.slice none 0 0), (.bool false)]), h0)) (
    ifB (lt 10 n0) (
      some ((.tuple #[(.slice none 0 0), (.bool false)]), h0)) (
      len v0 fun n1 =>
      lp k (f63_l1 rec k v0 n0 n1) [(.slice none 0 0), (.bool false), (.int .i64 0)] h0 fun e1 ws3 h4 =>
      onE e1 0 (
        some ((.tuple #[v0, (.bool true)]), h4)) (
        onR e1 (
          some ((.tuple #[gv ws3 0, gv ws3 1]), h4)))))

theorem e63 (rec : Rec) (k : Nat) (v0 : Value) (h : H) : bodyT Tryd.prog E0 SC (XC Tryd.prog rec k) 63 (Value × H) [.opq v0] h (fun v h => some (v, h)) = f63 rec k v0 h := by kernel_rfl

theorem t63 {k : Nat} {v0 : Value} {h h1 : H} {v : Value} (hh : f63 rn k v0 h = some (v, h1)) : rn 63 #[v0] h = some (v, trunc Tryd.prog h h1 v) :=
  run_of_bodyT (args := [.opq v0]) rfl ((e63 _ _ _ _).trans hh)

theorem y63 {k : Nat} {v0 : Value} {h : H} {v : Value} (hh : f63 rn k v0 h = some (v, h)) : rn 63 #[v0] h = some (v, h) := by rw [t63 hh, trunc_self]

noncomputable def f66_l2 (_rec : Rec) (_k : Nat) (v0 : Value) (ws0 : List Value) (n4 : Int) (n8 : Int) (ws1 : List Value) (h2 : H) : Option (Ex × List Value × H) :=
  asI .i64 (gv ws1 1) fun n9 =>
  ifB (lt n9 n8) (
    asK (gv ws1 1) fun n10 =>
    nn n10 (
      asK (gv ws1 1) fun n11 =>
      six v0 n11 1 fun b2 b3 =>
      ld Tryd.prog h2 3 b2 b3 fun v2 =>
      asI .i64 v2 fun n12 =>
      asK (gv ws0 1) fun n13 =>
      nn n13 (
        ifB (not (eq (and .i64 (shr .i64 n4 n10) 1) (and .i64 (shr .i64 n12 n13) 1))) (
          out .ret [(.bool false), gv ws1 1] h2) (
          asI .i64 (gv ws1 1) fun n14 =>
          out .normal [gv ws1 0, (.int .i64 (add .i64 n14 1))] h2)))) (
    out (.exit 2) [gv ws1 0, gv ws1 1] h2)

noncomputable def f66_l1 (rec : Rec) (k : Nat) (v0 : Value) (n0 : Int) (n1 : Int) (ws0 : List Value) (h1 : H) : Option (Ex × List Value × H) :=
  asI .i64 (gv ws0 1) fun n2 =>
  ifB (lt n2 n1) (
    asK (gv ws0 1) fun n3 =>
    six v0 n3 1 fun b0 b1 =>
    ld Tryd.prog h1 3 b0 b1 fun v1 =>
    asI .i64 v1 fun n4 =>
    len v0 fun n5 =>
    ifB (lt n0 n5) (
      out .ret [(.bool false), gv ws0 1] h1) (
      ifB (lt n4 0) (
        out .ret [(.bool false), gv ws0 1] h1) (
        len v0 fun n6 =>
        nn n6 (
          ifB (le (shl .i64 1 n6) n4) (
            out .ret [(.bool false), gv ws0 1] h1) (
            asK (gv ws0 1) fun n7 =>
            nn n7 (
              ifB (eq (and .i64 (shr .i64 n4 n7) 1) 1) (
                out .ret [(.bool false), gv ws0 1] h1) (
                len v0 fun n8 =>
                lp k (f66_l2 rec k v0 ws0 n4 n8) [gv ws0 0, (.int .i64 0)] h1 fun e0 ws2 h3 =>
                onE e0 2 (
                  asI .i64 (gv ws0 1) fun n15 =>
                  out .normal [gv ws2 0, (.int .i64 (add .i64 n15 1))] h3) (
                  onR e0 (
                    out .ret [gv ws2 0, gv ws0 1] h3))))))))) (
    out (.exit 0) [gv ws0 0, gv ws0 1] h1)

noncomputable def f66 (rec : Rec) (k : Nat) (v0 : Value) (n0 : Int) (h0 : H) : Option (Value × H) :=
  len v0 fun n1 =>
  lp k (f66_l1 rec k v0 n0 n1) [(.bool false), (.int .i64 0)] h0 fun e1 ws3 h4 =>
  onE e1 0 (
    len v0 fun n16 =>
    ifB (le 1 n16) (
      len v0 fun n17 =>
      some ((.bool (le n17 n0)), h4)) (
      some ((.bool false), h4))) (
    onR e1 (
      some (gv ws3 0, h4)))

theorem e66 (rec : Rec) (k : Nat) (v0 : Value) (n0 : Int) (h : H) : bodyT Tryd.prog E0 SC (XC Tryd.prog rec k) 66 (Value × H) [.opq v0, .int .i64 n0] h (fun v h => some (v, h)) = f66 rec k v0 n0 h := by kernel_rfl

theorem t66 {k : Nat} {v0 : Value} {n0 : Int} {h h1 : H} {v : Value} (hh : f66 rn k v0 n0 h = some (v, h1)) : rn 66 #[v0, .int .i64 n0] h = some (v, trunc Tryd.prog h h1 v) :=
  run_of_bodyT (args := [.opq v0, .int .i64 n0]) rfl ((e66 _ _ _ _ _).trans hh)

theorem p66 {k : Nat} {v0 : Value} {n0 : Int} {h h1 : H} {v : Value} (hh : f66 rn k v0 n0 h = some (v, h1)) (hp : plainO v = true) (x : Ext h h1) : rn 66 #[v0, .int .i64 n0] h = some (v, h) := by rw [t66 hh, trunc_pure hp x]

noncomputable def f65 (_rec : Rec) (_k : Nat) (v0 : Value) (h0 : H) : Option (Value × H) :=
  len v0 fun n0 =>
  nn n0 (
    some ((.int .i64 (sub .i64 (shl .i64 1 n0) 1)), h0))

theorem e65 (rec : Rec) (k : Nat) (v0 : Value) (h : H) : bodyT Tryd.prog E0 SC (XC Tryd.prog rec k) 65 (Value × H) [.opq v0] h (fun v h => some (v, h)) = f65 rec k v0 h := by kernel_rfl

theorem t65 {k : Nat} {v0 : Value} {h h1 : H} {v : Value} (hh : f65 rn k v0 h = some (v, h1)) : rn 65 #[v0] h = some (v, trunc Tryd.prog h h1 v) :=
  run_of_bodyT (args := [.opq v0]) rfl ((e65 _ _ _ _).trans hh)

theorem p65 {k : Nat} {v0 : Value} {h h1 : H} {v : Value} (hh : f65 rn k v0 h = some (v, h1)) (hp : plainO v = true) (x : Ext h h1) : rn 65 #[v0] h = some (v, h) := by rw [t65 hh, trunc_pure hp x]

noncomputable def f68 (_rec : Rec) (_k : Nat) (v0 : Value) (h0 : H) : Option (Value × H) :=
  len v0 fun n0 =>
  nn n0 (
    some ((.int .i64 (sub .i64 (shl .i64 1 n0) 1)), h0))

theorem e68 (rec : Rec) (k : Nat) (v0 : Value) (h : H) : bodyT Tryd.prog E0 SC (XC Tryd.prog rec k) 68 (Value × H) [.opq v0] h (fun v h => some (v, h)) = f68 rec k v0 h := by kernel_rfl

theorem t68 {k : Nat} {v0 : Value} {h h1 : H} {v : Value} (hh : f68 rn k v0 h = some (v, h1)) : rn 68 #[v0] h = some (v, trunc Tryd.prog h h1 v) :=
  run_of_bodyT (args := [.opq v0]) rfl ((e68 _ _ _ _).trans hh)

theorem p68 {k : Nat} {v0 : Value} {h h1 : H} {v : Value} (hh : f68 rn k v0 h = some (v, h1)) (hp : plainO v = true) (x : Ext h h1) : rn 68 #[v0] h = some (v, h) := by rw [t68 hh, trunc_pure hp x]

noncomputable def f76_l1 (rec : Rec) (_k : Nat)  (ws0 : List Value) (h1 : H) : Option (Ex × List Value × H) :=
  asI .i64 (gv ws0 1) fun n1 =>
  ifB (not (eq n1 0)) (
    asI .i64 (gv ws0 1) fun n2 =>
    calls rec h1 89 [(.int .u64 (wr .u64 n2))] fun v0 h2 =>
    asI .i64 v0 fun n3 =>
    bls Tryd.prog h2 22 1 [(0, (.int .i64 n3))] fun v1 h3 =>
    app Tryd.prog h3 22 22 (gv ws0 0) v1 fun v2 h4 =>
    asI .i64 (gv ws0 1) fun n4 =>
    asI .i64 (gv ws0 1) fun n5 =>
    out .normal [v2, (.int .i64 (and .i64 n5 (sub .i64 n4 1)))] h4) (
    out (.exit 0) [gv ws0 0, gv ws0 1] h1)

noncomputable def f76 (rec : Rec) (k : Nat) (n0 : Int) (h0 : H) : Option (Value × H) :=
  lp k (f76_l1 rec k) [(.slice none 0 0), (.int .i64 n0)] h0 fun e0 ws1 h5 =>
  onE e0 0 (
    some (gv ws1 0, h5)) (
    none)

theorem e76 (rec : Rec) (k : Nat) (n0 : Int) (h : H) : bodyT Tryd.prog E0 SC (XC Tryd.prog rec k) 76 (Value × H) [.int .i64 n0] h (fun v h => some (v, h)) = f76 rec k n0 h := by kernel_rfl

theorem t76 {k : Nat} {n0 : Int} {h h1 : H} {v : Value} (hh : f76 rn k n0 h = some (v, h1)) : rn 76 #[.int .i64 n0] h = some (v, trunc Tryd.prog h h1 v) :=
  run_of_bodyT (args := [.int .i64 n0]) rfl ((e76 _ _ _ _).trans hh)

theorem x76 {k : Nat} {n0 : Int} {h h1 : H} {v : Value} (hh : f76 rn k n0 h = some (v, h1)) (hp : plainO v = false) : ∃ h2, rn 76 #[.int .i64 n0] h = some (v, h2) ∧ Sm h1 h2 ∧ (Ext h h1 → Exw h h2) := trunc_cell hp (t76 hh)

noncomputable def f78_l2 (_rec : Rec) (_k : Nat) (v0 : Value) (n1 : Int) (v1 : Value) (n2 : Int) (ws1 : List Value) (h3 : H) : Option (Ex × List Value × H) :=
  asI .i64 (gv ws1 1) fun n3 =>
  ifB (lt n3 n2) (
    asK (gv ws1 1) fun n4 =>
    six v1 n4 1 fun b0 b1 =>
    ld Tryd.prog h3 3 b0 b1 fun v2 =>
    asI .i64 v2 fun n5 =>
    six v0 n5 1 fun b2 b3 =>
    ld Tryd.prog h3 3 b2 b3 fun v3 =>
    asI .i64 v3 fun n6 =>
    asI .i64 (gv ws1 0) fun n7 =>
    asI .i64 (gv ws1 1) fun n8 =>
    out .normal [(.int .i64 (or .i64 n7 (and .i64 n6 n1))), (.int .i64 (add .i64 n8 1))] h3) (
    out (.exit 2) [gv ws1 0, gv ws1 1] h3)

noncomputable def f78_l1 (rec : Rec) (k : Nat) (v0 : Value) (n1 : Int) (ws0 : List Value) (h1 : H) : Option (Ex × List Value × H) :=
  calls rec h1 76 [gv ws0 1] fun v1 h2 =>
  len v1 fun n2 =>
  lp k (f78_l2 rec k v0 n1 v1 n2) [gv ws0 1, (.int .i64 0)] h2 fun e0 ws2 h4 =>
  onE e0 2 (
    asI .i64 (gv ws2 0) fun n9 =>
    asI .i64 (gv ws0 1) fun n10 =>
    ifB (eq n9 n10) (
      out .ret [gv ws0 1, gv ws0 1] h4) (
      out .normal [gv ws0 0, gv ws2 0] h4)) (
    none)

noncomputable def f78 (rec : Rec) (k : Nat) (v0 : Value) (n0 : Int) (n1 : Int) (h0 : H) : Option (Value × H) :=
  nn n0 (
    lp k (f78_l1 rec k v0 n1) [(.int .i64 0), (.int .i64 (shl .i64 1 n0))] h0 fun e1 ws3 h5 =>
    onR e1 (
      some (gv ws3 0, h5)))

theorem e78 (rec : Rec) (k : Nat) (v0 : Value) (n0 : Int) (n1 : Int) (h : H) : bodyT Tryd.prog E0 SC (XC Tryd.prog rec k) 78 (Value × H) [.opq v0, .int .i64 n0, .int .i64 n1] h (fun v h => some (v, h)) = f78 rec k v0 n0 n1 h := by kernel_rfl

theorem t78 {k : Nat} {v0 : Value} {n0 : Int} {n1 : Int} {h h1 : H} {v : Value} (hh : f78 rn k v0 n0 n1 h = some (v, h1)) : rn 78 #[v0, .int .i64 n0, .int .i64 n1] h = some (v, trunc Tryd.prog h h1 v) :=
  run_of_bodyT (args := [.opq v0, .int .i64 n0, .int .i64 n1]) rfl ((e78 _ _ _ _ _ _).trans hh)

theorem p78 {k : Nat} {v0 : Value} {n0 : Int} {n1 : Int} {h h1 : H} {v : Value} (hh : f78 rn k v0 n0 n1 h = some (v, h1)) (hp : plainO v = true) (x : Ext h h1) : rn 78 #[v0, .int .i64 n0, .int .i64 n1] h = some (v, h) := by rw [t78 hh, trunc_pure hp x]

noncomputable def f64 (rec : Rec) (_k : Nat) (v0 : Value) (n0 : Int) (h0 : H) : Option (Value × H) :=
  ifB (eq n0 0) (
    some ((.bool true), h0)) (
    calls rec h0 89 [(.int .u64 (wr .u64 n0))] fun v1 h1 =>
    asI .i64 v1 fun n1 =>
    calls rec h1 78 [v0, (.int .i64 n1), (.int .i64 n0)] fun v2 h2 =>
    asI .i64 v2 fun n2 =>
    some ((.bool (eq n2 n0)), h2))

theorem e64 (rec : Rec) (k : Nat) (v0 : Value) (n0 : Int) (h : H) : bodyT Tryd.prog E0 SC (XC Tryd.prog rec k) 64 (Value × H) [.opq v0, .int .i64 n0] h (fun v h => some (v, h)) = f64 rec k v0 n0 h := by kernel_rfl

theorem t64 {k : Nat} {v0 : Value} {n0 : Int} {h h1 : H} {v : Value} (hh : f64 rn k v0 n0 h = some (v, h1)) : rn 64 #[v0, .int .i64 n0] h = some (v, trunc Tryd.prog h h1 v) :=
  run_of_bodyT (args := [.opq v0, .int .i64 n0]) rfl ((e64 _ _ _ _ _).trans hh)

theorem p64 {k : Nat} {v0 : Value} {n0 : Int} {h h1 : H} {v : Value} (hh : f64 rn k v0 n0 h = some (v, h1)) (hp : plainO v = true) (x : Ext h h1) : rn 64 #[v0, .int .i64 n0] h = some (v, h) := by rw [t64 hh, trunc_pure hp x]

noncomputable def f33_l2 (_rec : Rec) (_k : Nat) (v0 : Value) (n0 : Int) (n4 : Int) (ws1 : List Value) (h2 : H) : Option (Ex × List Value × H) :=
  asI .i64 (gv ws1 1) fun n5 =>
  ifB (lt n5 n4) (
    asI .i64 (gv ws1 0) fun n6 =>
    asK (gv ws1 1) fun n7 =>
    nn n7 (
      ifB (eq (and .i64 (shr .i64 n6 n7) 1) 1) (
        asK (gv ws1 1) fun n8 =>
        six v0 n8 1 fun b0 b1 =>
        ld Tryd.prog h2 3 b0 b1 fun v1 =>
        asI .i64 v1 fun n9 =>
        asI .i64 (gv ws1 0) fun n10 =>
        asI .i64 (gv ws1 1) fun n11 =>
        out .normal [(.int .i64 (or .i64 n10 (and .i64 n9 n0))), (.int .i64 (add .i64 n11 1))] h2) (
        asI .i64 (gv ws1 1) fun n12 =>
        out .normal [gv ws1 0, (.int .i64 (add .i64 n12 1))] h2))) (
    out (.exit 2) [gv ws1 0, gv ws1 1] h2)

noncomputable def f33_l1 (rec : Rec) (k : Nat) (v0 : Value) (n0 : Int) (n2 : Int) (ws0 : List Value) (h1 : H) : Option (Ex × List Value × H) :=
  asI .i64 (gv ws0 1) fun n3 =>
  ifB (lt n3 n2) (
    len v0 fun n4 =>
    lp k (f33_l2 rec k v0 n0 n4) [gv ws0 0, (.int .i64 0)] h1 fun e0 ws2 h3 =>
    onE e0 2 (
      asI .i64 (gv ws0 1) fun n13 =>
      out .normal [gv ws2 0, (.int .i64 (add .i64 n13 1))] h3) (
      none)) (
    out (.exit 0) [gv ws0 0, gv ws0 1] h1)

noncomputable def f33 (rec : Rec) (k : Nat) (v0 : Value) (n0 : Int) (n1 : Int) (h0 : H) : Option (Value × H) :=
  nn n1 (
    len v0 fun n2 =>
    lp k (f33_l1 rec k v0 n0 n2) [(.int .i64 (shl .i64 1 n1)), (.int .i64 0)] h0 fun e1 ws3 h4 =>
    onE e1 0 (
      some (gv ws3 0, h4)) (
      none))

theorem e33 (rec : Rec) (k : Nat) (v0 : Value) (n0 : Int) (n1 : Int) (h : H) : bodyT Tryd.prog E0 SC (XC Tryd.prog rec k) 33 (Value × H) [.opq v0, .int .i64 n0, .int .i64 n1] h (fun v h => some (v, h)) = f33 rec k v0 n0 n1 h := by kernel_rfl

theorem t33 {k : Nat} {v0 : Value} {n0 : Int} {n1 : Int} {h h1 : H} {v : Value} (hh : f33 rn k v0 n0 n1 h = some (v, h1)) : rn 33 #[v0, .int .i64 n0, .int .i64 n1] h = some (v, trunc Tryd.prog h h1 v) :=
  run_of_bodyT (args := [.opq v0, .int .i64 n0, .int .i64 n1]) rfl ((e33 _ _ _ _ _ _).trans hh)

theorem p33 {k : Nat} {v0 : Value} {n0 : Int} {n1 : Int} {h h1 : H} {v : Value} (hh : f33 rn k v0 n0 n1 h = some (v, h1)) (hp : plainO v = true) (x : Ext h h1) : rn 33 #[v0, .int .i64 n0, .int .i64 n1] h = some (v, h) := by rw [t33 hh, trunc_pure hp x]

noncomputable def f67_l1 (_rec : Rec) (_k : Nat) (n0 : Int) (ws0 : List Value) (h1 : H) : Option (Ex × List Value × H) :=
  asK (gv ws0 0) fun n2 =>
  nn n2 (
    ifB (eq (and .i64 (shr .i64 n0 n2) 1) 0) (
      asI .i64 (gv ws0 0) fun n3 =>
      out .normal [(.int .i64 (add .i64 n3 1))] h1) (
      out (.exit 0) [gv ws0 0] h1))

noncomputable def f67 (rec : Rec) (k : Nat) (v0 : Value) (n0 : Int) (h0 : H) : Option (Value × H) :=
  ifB (le n0 0) (
    some ((.bool false), h0)) (
    len v0 fun n1 =>
    nn n1 (
      ifB (le (shl .i64 1 n1) n0) (
        some ((.bool false), h0)) (
        lp k (f67_l1 rec k n0) [(.int .i64 0)] h0 fun e0 ws1 h2 =>
        onE e0 0 (
          calls rec h2 33 [v0, (.int .i64 n0), gv ws1 0] fun v1 h3 =>
          asI .i64 v1 fun n4 =>
          some ((.bool (eq n4 n0)), h3)) (
          none))))

theorem e67 (rec : Rec) (k : Nat) (v0 : Value) (n0 : Int) (h : H) : bodyT Tryd.prog E0 SC (XC Tryd.prog rec k) 67 (Value × H) [.opq v0, .int .i64 n0] h (fun v h => some (v, h)) = f67 rec k v0 n0 h := by kernel_rfl

theorem t67 {k : Nat} {v0 : Value} {n0 : Int} {h h1 : H} {v : Value} (hh : f67 rn k v0 n0 h = some (v, h1)) : rn 67 #[v0, .int .i64 n0] h = some (v, trunc Tryd.prog h h1 v) :=
  run_of_bodyT (args := [.opq v0, .int .i64 n0]) rfl ((e67 _ _ _ _ _).trans hh)

theorem p67 {k : Nat} {v0 : Value} {n0 : Int} {h h1 : H} {v : Value} (hh : f67 rn k v0 n0 h = some (v, h1)) (hp : plainO v = true) (x : Ext h h1) : rn 67 #[v0, .int .i64 n0] h = some (v, h) := by rw [t67 hh, trunc_pure hp x]

noncomputable def f83 (_rec : Rec) (_k : Nat) (v0 : Value) (h0 : H) : Option (Value × H) :=
  eqv Tryd.prog 22 v0 (.slice none 0 0) fun q0 =>
  ifB q0 (
    some ((.slice none 0 0), h0)) (
    bls Tryd.prog h0 22 0 [] fun v1 h1 =>
    app Tryd.prog h1 22 22 v1 v0 fun v2 h2 =>
    some (v2, h2))

theorem e83 (rec : Rec) (k : Nat) (v0 : Value) (h : H) : bodyT Tryd.prog E0 SC (XC Tryd.prog rec k) 83 (Value × H) [.opq v0] h (fun v h => some (v, h)) = f83 rec k v0 h := by kernel_rfl

theorem t83 {k : Nat} {v0 : Value} {h h1 : H} {v : Value} (hh : f83 rn k v0 h = some (v, h1)) : rn 83 #[v0] h = some (v, trunc Tryd.prog h h1 v) :=
  run_of_bodyT (args := [.opq v0]) rfl ((e83 _ _ _ _).trans hh)

theorem x83 {k : Nat} {v0 : Value} {h h1 : H} {v : Value} (hh : f83 rn k v0 h = some (v, h1)) (hp : plainO v = false) : ∃ h2, rn 83 #[v0] h = some (v, h2) ∧ Sm h1 h2 ∧ (Ext h h1 → Exw h h2) := trunc_cell hp (t83 hh)

noncomputable def f85 (_rec : Rec) (_k : Nat) (v0 : Value) (h0 : H) : Option (Value × H) :=
  eqv Tryd.prog 78 v0 (.slice none 0 0) fun q0 =>
  ifB q0 (
    some ((.slice none 0 0), h0)) (
    bls Tryd.prog h0 78 0 [] fun v1 h1 =>
    app Tryd.prog h1 78 78 v1 v0 fun v2 h2 =>
    some (v2, h2))

theorem e85 (rec : Rec) (k : Nat) (v0 : Value) (h : H) : bodyT Tryd.prog E0 SC (XC Tryd.prog rec k) 85 (Value × H) [.opq v0] h (fun v h => some (v, h)) = f85 rec k v0 h := by kernel_rfl

theorem t85 {k : Nat} {v0 : Value} {h h1 : H} {v : Value} (hh : f85 rn k v0 h = some (v, h1)) : rn 85 #[v0] h = some (v, trunc Tryd.prog h h1 v) :=
  run_of_bodyT (args := [.opq v0]) rfl ((e85 _ _ _ _).trans hh)

theorem x85 {k : Nat} {v0 : Value} {h h1 : H} {v : Value} (hh : f85 rn k v0 h = some (v, h1)) (hp : plainO v = false) : ∃ h2, rn 85 #[v0] h = some (v, h2) ∧ Sm h1 h2 ∧ (Ext h h1 → Exw h h2) := trunc_cell hp (t85 hh)

noncomputable def f79 (_rec : Rec) (_k : Nat) (v0 : Value) (n0 : Int) (h0 : H) : Option (Value × H) :=
  ifB (le 0 n0) (
    len v0 fun n1 =>
    some ((.bool (lt n0 n1)), h0)) (
    some ((.bool false), h0))

theorem e79 (rec : Rec) (k : Nat) (v0 : Value) (n0 : Int) (h : H) : bodyT Tryd.prog E0 SC (XC Tryd.prog rec k) 79 (Value × H) [.opq v0, .int .i64 n0] h (fun v h => some (v, h)) = f79 rec k v0 n0 h := by kernel_rfl

theorem t79 {k : Nat} {v0 : Value} {n0 : Int} {h h1 : H} {v : Value} (hh : f79 rn k v0 n0 h = some (v, h1)) : rn 79 #[v0, .int .i64 n0] h = some (v, trunc Tryd.prog h h1 v) :=
  run_of_bodyT (args := [.opq v0, .int .i64 n0]) rfl ((e79 _ _ _ _ _).trans hh)

theorem p79 {k : Nat} {v0 : Value} {n0 : Int} {h h1 : H} {v : Value} (hh : f79 rn k v0 n0 h = some (v, h1)) (hp : plainO v = true) (x : Ext h h1) : rn 79 #[v0, .int .i64 n0] h = some (v, h) := by rw [t79 hh, trunc_pure hp x]

noncomputable def f80 (_rec : Rec) (_k : Nat) (v0 : Value) (n0 : Int) (n1 : Int) (h0 : H) : Option (Value × H) :=
  six v0 n0 1 fun b0 b1 =>
  ld Tryd.prog h0 3 b0 b1 fun v1 =>
  asI .i64 v1 fun n2 =>
  nn n1 (
    some ((.bool (eq (and .i64 (shr .i64 n2 n1) 1) 1)), h0))

theorem e80 (rec : Rec) (k : Nat) (v0 : Value) (n0 : Int) (n1 : Int) (h : H) : bodyT Tryd.prog E0 SC (XC Tryd.prog rec k) 80 (Value × H) [.opq v0, .int .i64 n0, .int .i64 n1] h (fun v h => some (v, h)) = f80 rec k v0 n0 n1 h := by kernel_rfl

theorem t80 {k : Nat} {v0 : Value} {n0 : Int} {n1 : Int} {h h1 : H} {v : Value} (hh : f80 rn k v0 n0 n1 h = some (v, h1)) : rn 80 #[v0, .int .i64 n0, .int .i64 n1] h = some (v, trunc Tryd.prog h h1 v) :=
  run_of_bodyT (args := [.opq v0, .int .i64 n0, .int .i64 n1]) rfl ((e80 _ _ _ _ _ _).trans hh)

theorem p80 {k : Nat} {v0 : Value} {n0 : Int} {n1 : Int} {h h1 : H} {v : Value} (hh : f80 rn k v0 n0 n1 h = some (v, h1)) (hp : plainO v = true) (x : Ext h h1) : rn 80 #[v0, .int .i64 n0, .int .i64 n1] h = some (v, h) := by rw [t80 hh, trunc_pure hp x]

end Go.AM

end

section

/- The staged forms of functions 89, 93, 109, 117, and what calls of these answer. -/
namespace Go.AM
open Go.Proofs
noncomputable def f89 (rec : Rec) (_k : Nat) (v0 : Value) (h0 : H) : Option (Value × H) :=
  calls rec h0 106 [v0] fun v1 h1 =>
  asI .i64 v1 fun n0 =>
  some ((.int .i64 n0), h1)

theorem e89 (rec : Rec) (k : Nat) (v0 : Value) (h : H) : bodyT Tryd.prog E0 SC (XC Tryd.prog rec k) 89 (Value × H) [.opq v0] h (fun v h => some (v, h)) = f89 rec k v0 h := by kernel_rfl

theorem t89 {k : Nat} {v0 : Value} {h h1 : H} {v : Value} (hh : f89 rn k v0 h = some (v, h1)) : rn 89 #[v0] h = some (v, trunc Tryd.prog h h1 v) :=
  run_of_bodyT (args := [.opq v0]) rfl ((e89 _ _ _ _).trans hh)

theorem p89 {k : Nat} {v0 : Value} {h h1 : H} {v : Value} (hh : f89 rn k v0 h = some (v, h1)) (hp : plainO v = true) (x : Ext h h1) : rn 89 #[v0] h = some (v, h) := by rw [t89 hh, trunc_pure hp x]

end Go.AM

end

section

/- The lowest bit of a set; how many bits it has. -/
namespace Go.AM
open Go.Proofs
/-- The lowest number of a set below 1024. -/
def low (x : Nat) : Nat := ((List.range 10).find? fun i => x.testBit i).getD 0

/-- How many of the first ten numbers are in a set. -/
def pop (n : Nat) : Nat := (List.range 10).countP fun i => n.testBit i

theorem iso_any {P : Program} {E : Env} {n : Nat} {f : FuncId} {args : Array Value} {h h0 h1 : H} {v : Value} (hi : (E.iso f && args.toList.all plainV) = true) (hc : call P E (n + 1) f args h0 = some (v, h1)) : call P E (n + 1) f args h = some (v, h) := by
  unfold call at hc ⊢
  rw [if_pos hi] at hc ⊢
  cases hb : body P E (call P E n) (n + 1) f args (lone E) with
  | none => rw [hb] at hc; cases hc
  | some r =>
    obtain ⟨v', h'⟩ := r
    rw [hb] at hc
    simp only [Option.bind_some] at hc ⊢
    split at hc
    · rename_i hp
      rw [if_pos hp]
      cases hc
      rfl
    · cases hc

noncomputable def tzOk (x : Nat) : Bool := match call Tryd.prog E0 20 106 #[.int .u64 (x : Int)] ⟨fun _ => none, 0, 0⟩ with
  | some (.int .i64 z, _) => z == (low x : Int)
  | _ => false

theorem tz_all : ((List.range 1024).all fun x => decide (x = 0) || tzOk x) = true := by decide +kernel

theorem s106 {x : Nat} (h0 : 0 < x) (h1 : x < 1024) (h : H) : rn 106 #[.int .u64 x] h = some (iv (low x), h) := by
  have := List.all_eq_true.1 tz_all x (List.mem_range.2 h1)
  rw [Bool.or_eq_true, decide_eq_true_iff] at this
  have ht : tzOk x = true := by
    rcases this with h2 | h2
    · omega
    · exact h2
  unfold tzOk at ht
  split at ht
  · rename_i z h' hc
    have hz : z = (low x : Int) := by simpa using ht
    subst hz
    exact run_iso (n := 19) (by rfl) (iso_any (by rfl) hc)
  · cases ht

theorem s89 {x : Nat} (h0 : 0 < x) (h1 : x < 1024) (h : H) : rn 89 #[.int .u64 x] h = some (iv (low x), h) := by
  refine p89 (k := 0) ?_ rfl (.refl _)
  unfold f89
  rw [calls_eq (xs := [.int .u64 x]) (s106 h0 h1 h), asI_int]

end Go.AM

end

section

/- Graphs that are valid; copies of slices; it is awake. -/
namespace Go.AM
open Go.Proofs
variable {R : Type}
attribute [local simp] nx_eq nx_new nx_set blk_new blk_set asI_int asK_int asB_bool asP_ptr al_eq bx_eq len_slice onE_exit onE_ret onR_ret Value.cells d3 d22 d23 cell_new cell_set rd_new rd_set off eq lt le ifB gv out
abbrev cellsI (l : List Int) : List (List Value) := l.map fun z => [iv z]

theorem app22 : okApp Tryd.prog 22 3 1 = true := by kernel_rfl

theorem app23 : okApp Tryd.prog 23 3 1 = true := by kernel_rfl

theorem app78 : okApp Tryd.prog 78 3 1 = true := by kernel_rfl

theorem under22 : Tryd.prog.underlying 22 = some (.slice 3) := by kernel_rfl

theorem under23 : Tryd.prog.underlying 23 = some (.slice 3) := by kernel_rfl

theorem bls22e (h : H) : buildSlice Tryd.prog 22 0 [] h = some (.slice (some ⟨h.nx, 0, none⟩) 0 0, h.new (.row [] 3 true)) := by kernel_rfl

theorem bls23e (h : H) : buildSlice Tryd.prog 23 0 [] h = some (.slice (some ⟨h.nx, 0, none⟩) 0 0, h.new (.row [] 3 true)) := by kernel_rfl

theorem bls78e (h : H) : buildSlice Tryd.prog 78 0 [] h = some (.slice (some ⟨h.nx, 0, none⟩) 0 0, h.new (.row [] 3 true)) := by kernel_rfl

theorem bls22 (z : Int) (h : H) : buildSlice Tryd.prog 22 1 [(0, .int .i64 z)] h = some (.slice (some ⟨h.nx, 0, none⟩) 1 1, h.new (.row [iv z] 3 true)) := by kernel_rfl

theorem nil22 : binOp Tryd.prog .eql 22 (.slice none 0 0) (.slice none 0 0) = some (.bool true) := by kernel_rfl

theorem some22 (b o n c : Nat) : binOp Tryd.prog .eql 22 (.slice (some ⟨b, o, none⟩) n c) (.slice none 0 0) = some (.bool false) := by kernel_rfl

theorem nil23 : binOp Tryd.prog .eql 23 (.slice none 0 0) (.slice none 0 0) = some (.bool true) := by kernel_rfl

theorem some23 (b o n c : Nat) : binOp Tryd.prog .eql 23 (.slice (some ⟨b, o, none⟩) n c) (.slice none 0 0) = some (.bool false) := by kernel_rfl

theorem some78 (b o n c : Nat) : binOp Tryd.prog .eql 78 (.slice (some ⟨b, o, none⟩) n c) (.slice none 0 0) = some (.bool false) := by kernel_rfl

/-- A copy: of a graph, of a slice of numbers, of a town. -/
theorem s52 {v : Value} {l : List (List Value)} {h : H} (hs : SlR h 3 1 v l) (hm : l.length < 2 ^ 30) : ∃ v' h', rn 52 #[v] h = some (v', h') ∧ Exw h h' ∧ SlR h' 3 1 v' l ∧ ∃ a n c, v' = .slice a n c := by
  have hs0 := hs
  have key : ∃ v' h', f52 rn 0 v h = some (v', h') ∧ Ext h h' ∧ SlR h' 3 1 v' l := by
    cases hs with
    | nil =>
      refine ⟨.slice none 0 0, h, ?_, .refl _, .nil⟩
      unfold f52 eqv
      rw [nil23]
      rfl
    | @at_ b o c cs own l hb hr hk hc hl hx =>
      unfold f52 eqv
      rw [some23]
      simp only []
      rw [show ifB false = fun (x y : Option (Value × H)) => y from rfl]
      simp only []
      rw [bls_some (bls23e h)]
      have x1 := Ext.new h (.row [] 3 true)
      obtain ⟨v', h', e, x, s⟩ := app_all (b := h.nx) app23 app23 (Nat.lt_succ_self _) (blk_new_self _ _) (hs0.ext x1) hm
      exact ⟨v', h', e _, x1.trans x, s⟩
  obtain ⟨v', h', e, x, s⟩ := key
  have hv : ∃ a n c, v' = .slice a n c := by cases s <;> exact ⟨_, _, _, rfl⟩
  obtain ⟨a, n, c, rfl⟩ := hv
  obtain ⟨h2, e2, m2, w2⟩ := x52 e rfl
  exact ⟨_, h2, e2, w2 x, s.ext m2.ext, a, n, c, rfl⟩

theorem s83 {v : Value} {l : List (List Value)} {h : H} (hs : SlR h 3 1 v l) (hm : l.length < 2 ^ 30) : ∃ v' h', rn 83 #[v] h = some (v', h') ∧ Exw h h' ∧ SlR h' 3 1 v' l ∧ ∃ a n c, v' = .slice a n c := by
  have hs0 := hs
  have key : ∃ v' h', f83 rn 0 v h = some (v', h') ∧ Ext h h' ∧ SlR h' 3 1 v' l := by
    cases hs with
    | nil =>
      refine ⟨.slice none 0 0, h, ?_, .refl _, .nil⟩
      unfold f83 eqv
      rw [nil22]
      rfl
    | @at_ b o c cs own l hb hr hk hc hl hx =>
      unfold f83 eqv
      rw [some22]
      simp only []
      rw [show ifB false = fun (x y : Option (Value × H)) => y from rfl]
      simp only []
      rw [bls_some (bls22e h)]
      have x1 := Ext.new h (.row [] 3 true)
      obtain ⟨v', h', e, x, s⟩ := app_all (b := h.nx) app22 app22 (Nat.lt_succ_self _) (blk_new_self _ _) (hs0.ext x1) hm
      exact ⟨v', h', e _, x1.trans x, s⟩
  obtain ⟨v', h', e, x, s⟩ := key
  have hv : ∃ a n c, v' = .slice a n c := by cases s <;> exact ⟨_, _, _, rfl⟩
  obtain ⟨a, n, c, rfl⟩ := hv
  obtain ⟨h2, e2, m2, w2⟩ := x83 e rfl
  exact ⟨_, h2, e2, w2 x, s.ext m2.ext, a, n, c, rfl⟩

/-- The beginning of a graph. -/
theorem s18 {v : Value} {l : List Int} {h : H} (hs : SlR h 3 1 v (cellsI l)) : ∃ v' h', rn 18 #[v] h = some (v', h') ∧ Exw h h' ∧ SlR h' 3 1 v' (cellsI (l.take 14)) := by
  have e1 : imin ((cellsI l).length : Int) 14 = ((min l.length 14 : Nat) : Int) := by
    rw [List.length_map]
    unfold imin
    split <;> omega
  obtain ⟨v1, s1, e2⟩ := hs.take (i := ((min l.length 14 : Nat) : Int)) under23 sz3 (by omega) (by rw [List.length_map]; omega)
  have e3 : (cellsI l).take ((min l.length 14 : Nat) : Int).toNat = cellsI (l.take 14) := by
    rw [Int.toNat_natCast, ← List.map_take]
    congr 1
    rcases Nat.le_total l.length 14 with h1 | h1
    · rw [Nat.min_eq_left h1, List.take_of_length_le (Nat.le_refl _), List.take_of_length_le h1]
    · rw [Nat.min_eq_right h1]
  rw [e3] at s1
  obtain ⟨v', h', e4, x, s, a, n, c, rfl⟩ := s52 s1 (by rw [List.length_map, List.length_take]; omega)
  obtain ⟨h2, e5, m2, w2⟩ := x18 (k := 0) (h := h) (v0 := v) (h1 := h') (v := .slice a n c) (by
    unfold f18
    rw [hs.len, e1, e2, calls_eq e4]) rfl
  exact ⟨_, h2, e5, w2 x.toExt, s.ext m2.ext⟩

/-- Is a number in a set? -/
def bitI (x j : Int) : Int := AM.and .i64 (shr .i64 x j) 1

def rowOk (l : List Int) (i : Nat) (x : Int) : Bool :=
  !decide (x < 0) && !decide (AM.shl .i64 1 (l.length : Int) ≤ x) && !decide (bitI x i = 1) && (List.range l.length).all fun j => decide (bitI x j = bitI (l.getD j 0) i)

/-- Is a graph valid? -/
def validG (l : List Int) : Bool := decide (1 ≤ l.length) && decide (l.length ≤ 10) && (List.range l.length).all fun i => rowOk l i (l.getD i 0)

theorem validG_iff {l : List Int} (h : 1 ≤ l.length ∧ l.length ≤ 10) : validG l = true ↔ ∀ i x, l[i]? = some x → rowOk l i x = true := by
  unfold validG
  rw [decide_eq_true h.1, decide_eq_true h.2]
  simp only [Bool.true_and, List.all_eq_true, List.mem_range]
  constructor
  · intro hh i x hx
    have := hh i (List.getElem?_eq_some_iff.1 hx).1
    simpa [List.getD, hx] using this
  · intro hh i hi
    have := hh i _ (List.getElem?_eq_getElem hi)
    simpa [List.getD, List.getElem?_eq_getElem hi] using this

theorem getL {h : H} {v : Value} {l : List Int} (hs : SlR h 3 1 v (cellsI l)) {i : Nat} {x : Int} (hx : l[i]? = some x) (K : Value → Option R) : (six v (i : Int) 1 fun b o => (h.cell b o).bind K) = K (iv x) :=
  hs.c0 (by omega) (x := [iv x]) (by simp [hx]) rfl K

set_option maxHeartbeats 1000000 in
theorem s63 {v : Value} {l : List Int} {h : H} (hs : SlR h 3 1 v (cellsI l)) : rn 63 #[v] h = some (if validG l = true then .tuple #[v, .bool true] else .tuple #[.slice none 0 0, .bool false], h) := by
  have hn : ∀ {T : Type} (K : Int → Option T), len v K = K (l.length : Int) := fun K => by rw [hs.len]; simp
  by_cases hl : 1 ≤ l.length ∧ l.length ≤ 10
  · have hni : ∀ i : Nat, nn (i : Int) = fun (z : Option (Ex × List Value × H)) => z := fun i => by funext z; exact nn_ge (by omega) z
    have hb : ∀ a b : Int, AM.and .i64 (shr .i64 a b) 1 = bitI a b := fun _ _ => rfl
    have inner := fun (i : Nat) (x : Int) (_ : l[i]? = some x) => lp_all (F := f63_l2 rn 200010 v l.length [.slice none 0 0, .bool false, iv i] x) (k := 200010) (l := l) (h := h) (fun j => [.slice none 0 0, .bool false, iv j])
      (fun j y => decide (bitI x j = bitI y i)) (fun j => [.slice none 0 0, .bool false, iv j]) 2 [.slice none 0 0, .bool false, iv l.length] (ws := [.slice none 0 0, .bool false, iv 0]) rfl (by omega)
      (by simp [f63_l2])
      (by
        intro j y hy
        have hj := (List.getElem?_eq_some_iff.1 hy).1
        have hadd : add .i64 (j : Int) 1 = (j : Int) + 1 := add64 (by omega) (by omega)
        have e1 := fun (K : Value → Option (Ex × List Value × H)) => getL hs hy K
        by_cases hq : bitI x j = bitI y i
        · simp [f63_l2, hj, hni, e1, hb, hq, hadd]
        · simp [f63_l2, hj, hni, e1, hb, hq])
    have hlp := lp_all (F := f63_l1 rn 200010 v l.length l.length) (k := 200010) (l := l) (h := h) (fun i => [.slice none 0 0, .bool false, iv i])
      (fun i x => rowOk l i x) (fun i => [.slice none 0 0, .bool false, iv i]) 0 [.slice none 0 0, .bool false, iv l.length] (ws := [.slice none 0 0, .bool false, iv 0]) rfl (by omega)
      (by simp [f63_l1])
      (by
        intro i x hx
        have hi := (List.getElem?_eq_some_iff.1 hx).1
        have hadd : add .i64 (i : Int) 1 = (i : Int) + 1 := add64 (by omega) (by omega)
        have e1 := fun (K : Value → Option (Ex × List Value × H)) => getL hs hx K
        have hall : rowOk l i x = (!decide (x < 0) && !decide (AM.shl .i64 1 (l.length : Int) ≤ x) && !decide (bitI x i = 1) && (List.range l.length).all fun j => decide (bitI x j = bitI (l.getD j 0) i)) := rfl
        by_cases h1 : x < 0
        · have : rowOk l i x = false := by rw [hall, decide_eq_true h1]; rfl
          simp [f63_l1, hi, e1, h1, this]
        · by_cases h2 : AM.shl .i64 1 (l.length : Int) ≤ x
          · have : rowOk l i x = false := by rw [hall, decide_eq_true h2]; simp
            simp [f63_l1, hi, e1, h1, hni, h2, this]
          · by_cases h3 : bitI x i = 1
            · have : rowOk l i x = false := by rw [hall, decide_eq_true h3]; simp
              simp [f63_l1, hi, e1, h1, hni, h2, hb, h3, this]
            · rcases inner i x hx with ⟨j, y, hy, q2, _, q1⟩ | ⟨q2, q1⟩
              · have : rowOk l i x = false := by
                  have : ((List.range l.length).all fun j => decide (bitI x j = bitI (l.getD j 0) i)) = false := by
                    rw [List.all_eq_false]
                    refine ⟨j, List.mem_range.2 (List.getElem?_eq_some_iff.1 hy).1, ?_⟩
                    rw [show l.getD j 0 = y by simp [List.getD, hy], q2]; simp
                  rw [hall, this]; simp
                have hlq := fun (K : Ex → List Value → H → Option (Ex × List Value × H)) => lp_eq (K := K) q1
                simp [f63_l1, hi, e1, h1, hni, h2, hb, h3, this, hlq]
              · have : rowOk l i x = true := by
                  have : ((List.range l.length).all fun j => decide (bitI x j = bitI (l.getD j 0) i)) = true := by
                    rw [List.all_eq_true]
                    intro j hj
                    have hj := List.mem_range.1 hj
                    have := q2 j _ (List.getElem?_eq_getElem hj)
                    simpa [List.getD, List.getElem?_eq_getElem hj] using this
                  rw [hall, this, decide_eq_false h1, decide_eq_false h2, decide_eq_false h3]; rfl
                have hlq := fun (K : Ex → List Value → H → Option (Ex × List Value × H)) => lp_eq (K := K) q1
                simp [f63_l1, hi, e1, h1, hni, h2, hb, h3, this, hlq, hadd])
    have hle1 : ¬ (l.length : Int) < 1 := by omega
    have hle2 : ¬ (10 : Int) < (l.length : Int) := by omega
    rcases hlp with ⟨j, y, hy, q2, _, q1⟩ | ⟨q2, q1⟩
    · have hv : validG l = false := by
        rw [Bool.eq_false_iff]
        intro hc
        have := (validG_iff hl).1 hc j y hy
        rw [this] at q2
        cases q2
      rw [hv]
      exact y63 (k := 200010) (by simp [f63, hn, hle1, hle2, lp_eq q1])
    · have hv : validG l = true := (validG_iff hl).2 q2
      rw [hv, if_pos rfl]
      exact y63 (k := 200010) (by simp [f63, hn, hle1, hle2, lp_eq q1])
  · have hv : validG l = false := by
      unfold validG
      rw [Bool.eq_false_iff]
      intro hc
      simp only [Bool.and_eq_true, decide_eq_true_iff] at hc
      exact hl hc.1
    rw [hv]
    refine y63 (k := 0) ?_
    simp [f63, hn]
    omega

set_option maxHeartbeats 1000000 in
/-- The document's test. -/
theorem s66 {v : Value} {l : List Int} {h : H} (hs : SlR h 3 1 v (cellsI l)) : rn 66 #[v, iv 10] h = some (.bool (validG l), h) := by
  have hlen := hs.lt62
  rw [List.length_map] at hlen
  have hn : ∀ {T : Type} (K : Int → Option T), len v K = K (l.length : Int) := fun K => by rw [hs.len]; simp
  by_cases hl : 1 ≤ l.length ∧ l.length ≤ 10
  · have hni : ∀ i : Nat, nn (i : Int) = fun (z : Option (Ex × List Value × H)) => z := fun i => by funext z; exact nn_ge (by omega) z
    have hb : ∀ a b : Int, AM.and .i64 (shr .i64 a b) 1 = bitI a b := fun _ _ => rfl
    have hle2 : ¬ (10 : Int) < (l.length : Int) := by omega
    have inner := fun (i : Nat) (x : Int) (_ : l[i]? = some x) => lp_all (F := f66_l2 rn 200010 v [.bool false, iv i] x l.length) (k := 200010) (l := l) (h := h) (fun j => [.bool false, iv j])
      (fun j y => decide (bitI x j = bitI y i)) (fun j => [.bool false, iv j]) 2 [.bool false, iv l.length] (ws := [.bool false, iv 0]) rfl (by omega)
      (by simp [f66_l2])
      (by
        intro j y hy
        have hj := (List.getElem?_eq_some_iff.1 hy).1
        have hadd : add .i64 (j : Int) 1 = (j : Int) + 1 := add64 (by omega) (by omega)
        have e1 := fun (K : Value → Option (Ex × List Value × H)) => getL hs hy K
        by_cases hq : bitI x j = bitI y i
        · simp [f66_l2, hj, hni, e1, hb, hq, hadd]
        · simp [f66_l2, hj, hni, e1, hb, hq])
    have hlp := lp_all (F := f66_l1 rn 200010 v 10 l.length) (k := 200010) (l := l) (h := h) (fun i => [.bool false, iv i])
      (fun i x => rowOk l i x) (fun i => [.bool false, iv i]) 0 [.bool false, iv l.length] (ws := [.bool false, iv 0]) rfl (by omega)
      (by simp [f66_l1])
      (by
        intro i x hx
        have hi := (List.getElem?_eq_some_iff.1 hx).1
        have hadd : add .i64 (i : Int) 1 = (i : Int) + 1 := add64 (by omega) (by omega)
        have e1 := fun (K : Value → Option (Ex × List Value × H)) => getL hs hx K
        have hall : rowOk l i x = (!decide (x < 0) && !decide (AM.shl .i64 1 (l.length : Int) ≤ x) && !decide (bitI x i = 1) && (List.range l.length).all fun j => decide (bitI x j = bitI (l.getD j 0) i)) := rfl
        by_cases h1 : x < 0
        · have : rowOk l i x = false := by rw [hall, decide_eq_true h1]; rfl
          simp [f66_l1, hi, e1, hn, hle2, h1, this]
        · by_cases h2 : AM.shl .i64 1 (l.length : Int) ≤ x
          · have : rowOk l i x = false := by rw [hall, decide_eq_true h2]; simp
            simp [f66_l1, hi, e1, hn, hle2, h1, hni, h2, this]
          · by_cases h3 : bitI x i = 1
            · have : rowOk l i x = false := by rw [hall, decide_eq_true h3]; simp
              simp [f66_l1, hi, e1, hn, hle2, h1, hni, h2, hb, h3, this]
            · rcases inner i x hx with ⟨j, y, hy, q2, _, q1⟩ | ⟨q2, q1⟩
              · have : rowOk l i x = false := by
                  have : ((List.range l.length).all fun j => decide (bitI x j = bitI (l.getD j 0) i)) = false := by
                    rw [List.all_eq_false]
                    refine ⟨j, List.mem_range.2 (List.getElem?_eq_some_iff.1 hy).1, ?_⟩
                    rw [show l.getD j 0 = y by simp [List.getD, hy], q2]; simp
                  rw [hall, this]; simp
                have hlq := fun (K : Ex → List Value → H → Option (Ex × List Value × H)) => lp_eq (K := K) q1
                simp [f66_l1, hi, e1, hn, hle2, h1, hni, h2, hb, h3, this, hlq]
              · have : rowOk l i x = true := by
                  have : ((List.range l.length).all fun j => decide (bitI x j = bitI (l.getD j 0) i)) = true := by
                    rw [List.all_eq_true]
                    intro j hj
                    have hj := List.mem_range.1 hj
                    have := q2 j _ (List.getElem?_eq_getElem hj)
                    simpa [List.getD, List.getElem?_eq_getElem hj] using this
                  rw [hall, this, decide_eq_false h1, decide_eq_false h2, decide_eq_false h3]; rfl
                have hlq := fun (K : Ex → List Value → H → Option (Ex × List Value × H)) => lp_eq (K := K) q1
                simp [f66_l1, hi, e1, hn, hle2, h1, hni, h2, hb, h3, this, hlq, hadd])
    rcases hlp with ⟨j, y, hy, q2, _, q1⟩ | ⟨q2, q1⟩
    · have hv : validG l = false := by
        rw [Bool.eq_false_iff]
        intro hc
        have := (validG_iff hl).1 hc j y hy
        rw [this] at q2
        cases q2
      rw [hv]
      exact p66 (k := 200010) (by simp [f66, hn, lp_eq q1]) rfl (.refl _)
    · have hv : validG l = true := (validG_iff hl).2 q2
      rw [hv]
      exact p66 (k := 200010) (by simp [f66, hn, lp_eq q1, show (1 : Int) ≤ (l.length : Int) by omega, show (l.length : Int) ≤ 10 by omega]) rfl (.refl _)
  · have hv : validG l = false := by
      unfold validG
      rw [Bool.eq_false_iff]
      intro hc
      simp only [Bool.and_eq_true, decide_eq_true_iff] at hc
      exact hl hc.1
    rw [hv]
    cases l with
    | nil =>
      have q1 : lpGo (f66_l1 rn 1 v 10 0) 1 [.bool false, iv 0] h = some (.exit 0, [.bool false, iv 0], h) := lpGo_exit (by simp [f66_l1])
      exact p66 (k := 1) (by simp [f66, hn, lp_eq q1]) rfl (.refl _)
    | cons x l =>
      have hle2 : (10 : Int) < ((x :: l).length : Int) := by simp at hl ⊢; omega
      have hpos : 0 < (x :: l).length := by simp
      have e1 := fun (K : Value → Option (Ex × List Value × H)) => getL hs (i := 0) (x := x) rfl K
      generalize x :: l = l' at *
      have e1' : ∀ (K : Value → Option (Ex × List Value × H)), (six v 0 1 fun b o => (h.cell b o).bind K) = K (iv x) := e1
      have q1 : lpGo (f66_l1 rn 1 v 10 l'.length) 1 [.bool false, iv 0] h = some (.ret, [.bool false, iv 0], h) := lpGo_ret (by simp [f66_l1, hpos, e1', hn, hle2])
      exact p66 (k := 1) (by simp [f66, hn, lp_eq q1]) rfl (.refl _)

theorem s19 {v : Value} {l : List Int} {h : H} (hs : SlR h 3 1 v (cellsI l)) : rn 19 #[v] h = some (.bool (validG l), h) := by
  refine p19 (k := 0) ?_ rfl (.refl _)
  unfold f19
  rw [calls_eq (xs := [v, iv 10]) (s66 hs), asB_bool]

theorem validG_take {l : List Int} : validG (l.take 14) = validG l := by
  by_cases hc : l.length ≤ 10
  · rw [List.take_of_length_le (by omega)]
  · unfold validG
    rw [decide_eq_false (show ¬ (l.take 14).length ≤ 10 by simp; omega), decide_eq_false hc]
    simp

end Go.AM

end

section

/- Graphs of at most ten nodes, in plain words: sets as numbers, and what a node reaches within a set. -/
namespace Go.AM
/-! ### Sets as numbers -/
/-- The set of the numbers below n with a property. -/
def mkS (p : Nat → Bool) : Nat → Nat
  | 0 => 0
  | n + 1 => mkS p n ||| (if p n = true then 2 ^ n else 0)

theorem mkS_lt (p : Nat → Bool) : ∀ n, mkS p n < 2 ^ n := by
  intro n
  induction n with
  | zero => simp [mkS]
  | succ n ih =>
    simp only [mkS]
    have h1 : mkS p n < 2 ^ (n + 1) := Nat.lt_trans ih (Nat.pow_lt_pow_right (by omega) (by omega))
    refine Nat.or_lt_two_pow h1 ?_
    split
    · exact Nat.pow_lt_pow_right (by omega) (by omega)
    · exact Nat.two_pow_pos _

theorem mkS_bit (p : Nat → Bool) : ∀ n i, (mkS p n).testBit i = (decide (i < n) && p i) := by
  intro n
  induction n with
  | zero => intro i; simp [mkS]
  | succ n ih =>
    intro i
    simp only [mkS]
    rw [Nat.testBit_or, ih]
    by_cases hi : i = n
    · subst hi
      cases hp : p i <;> simp
    · have h1 : (if p n = true then 2 ^ n else 0).testBit i = false := by
        split
        · rw [Nat.testBit_two_pow]; simp; omega
        · simp
      rw [h1, Bool.or_false]
      have : decide (i < n) = decide (i < n + 1) := by rw [decide_eq_decide]; omega
      rw [this]

theorem big_bit {a n i : Nat} (ha : a < 2 ^ n) (hi : n ≤ i) : a.testBit i = false := Nat.testBit_lt_two_pow (Nat.lt_of_lt_of_le ha (Nat.pow_le_pow_right (by omega) hi))

theorem bit_lt {a n i : Nat} (ha : a < 2 ^ n) (h : a.testBit i = true) : i < n := by
  refine Classical.byContradiction fun hc => ?_
  rw [big_bit ha (by omega)] at h
  cases h

theorem set_ext {a b n : Nat} (ha : a < 2 ^ n) (hb : b < 2 ^ n) (h : ∀ i, i < n → a.testBit i = b.testBit i) : a = b := by
  apply Nat.eq_of_testBit_eq
  intro i
  by_cases hi : i < n
  · exact h i hi
  · rw [big_bit ha (by omega), big_bit hb (by omega)]

/-- The numbers of a set, rising. -/
def elts (s : Nat) : List Nat := (List.range 10).filter fun i => s.testBit i

theorem mem_elts {s i : Nat} (hs : s < 1024) : i ∈ elts s ↔ s.testBit i = true := by
  unfold elts
  rw [List.mem_filter, List.mem_range]
  exact ⟨And.right, fun h => ⟨bit_lt (n := 10) hs h, h⟩⟩

theorem elts_all : ((List.range 1024).all fun n => decide (n = 0) || (decide (elts n = low n :: elts (n &&& (n - 1))) && decide (n &&& (n - 1) < n))) = true := by decide +kernel

theorem elts_next {n : Nat} (h0 : 0 < n) (h : n < 1024) : elts n = low n :: elts (n &&& (n - 1)) ∧ n &&& (n - 1) < n := by
  have := List.all_eq_true.1 elts_all n (List.mem_range.2 h)
  simp only [Bool.or_eq_true, Bool.and_eq_true, decide_eq_true_iff] at this
  rcases this with h1 | h1
  · omega
  · exact h1

theorem elts_zero : elts 0 = [] := by decide

theorem low_bit {n : Nat} (h0 : 0 < n) (h : n < 1024) : n.testBit (low n) = true := by
  rw [← mem_elts h, (elts_next h0 h).1]
  exact List.mem_cons_self

theorem low_min {n i : Nat} (h : n < 1024) (hi : n.testBit i = true) : low n ≤ i := by
  have h0 : 0 < n := by
    refine Nat.pos_of_ne_zero fun e => ?_
    subst e
    simp at hi
  have h1 := (mem_elts h).2 hi
  have hp : (elts n).Pairwise (· < ·) := by
    unfold elts
    exact List.Pairwise.filter _ List.pairwise_lt_range
  rw [(elts_next h0 h).1] at h1 hp
  rcases List.mem_cons.1 h1 with h2 | h2
  · omega
  · exact Nat.le_of_lt ((List.pairwise_cons.1 hp).1 i h2)

theorem elts_len (n : Nat) : (elts n).length = pop n := by
  unfold elts pop
  rw [List.countP_eq_length_filter]

theorem elts_nodup (n : Nat) : (elts n).Nodup := by
  unfold elts
  exact List.Pairwise.filter _ List.nodup_range

/-- Fewer numbers in a smaller set. -/
theorem pop_lt {a b i : Nat} (hb : b < 1024) (h : ∀ j, a.testBit j = true → b.testBit j = true) (hi : b.testBit i = true) (ha : a.testBit i = false) : pop a < pop b := by
  have hi10 : i < 10 := bit_lt (n := 10) hb hi
  have key : ∀ n, i < n → ((List.range n).countP fun j => a.testBit j) < ((List.range n).countP fun j => b.testBit j) := by
    intro n
    induction n with
    | zero => intro h; omega
    | succ n ih =>
      intro hn
      rw [List.range_succ, List.countP_append, List.countP_append]
      have hle : ((List.range n).countP fun j => a.testBit j) ≤ ((List.range n).countP fun j => b.testBit j) := List.countP_mono_left fun j _ hj => h j hj
      by_cases hin : i = n
      · subst hin
        simp [hi, ha]
        omega
      · have := ih (by omega)
        have h2 : ([n].countP fun j => a.testBit j) ≤ ([n].countP fun j => b.testBit j) := List.countP_mono_left fun j _ hj => h j hj
        omega
  exact key 10 hi10

theorem pop_le_of {a b : Nat} (h : ∀ j, a.testBit j = true → b.testBit j = true) : pop a ≤ pop b := List.countP_mono_left fun j _ hj => h j hj

theorem pop_le_n {a n : Nat} (hn : n ≤ 10) (ha : a < 2 ^ n) : pop a ≤ n := by
  unfold pop
  rw [show 10 = n + (10 - n) by omega, List.range_add, List.countP_append]
  have h1 : ((List.range n).countP fun i => a.testBit i) ≤ n := Nat.le_trans List.countP_le_length (by simp)
  have h2 : (((List.range (10 - n)).map (n + ·)).countP fun i => a.testBit i) = 0 := by
    rw [List.countP_eq_zero]
    intro x hx
    obtain ⟨y, _, rfl⟩ := List.mem_map.1 hx
    rw [big_bit ha (by omega)]
    simp
  omega

/-! ### Graphs -/
/-- The neighbours of a node. -/
def nb (g : List Nat) (i : Nat) : Nat := g.getD i 0

def adj (g : List Nat) (a b : Nat) : Bool := (nb g a).testBit b

/-- Arrows between at most ten nodes. -/
structure GrB (g : List Nat) : Prop where
  len : g.length ≤ 10
  lt : ∀ x ∈ g, x < 2 ^ g.length

theorem GrB.nb_lt {g : List Nat} (hg : GrB g) (i : Nat) : nb g i < 2 ^ g.length := by
  unfold nb
  rw [List.getD_eq_getElem?_getD]
  cases h : g[i]? with
  | none => exact Nat.two_pow_pos _
  | some x => exact hg.lt x (List.mem_of_getElem? h)

theorem GrB.adj_lt {g : List Nat} (hg : GrB g) {a b : Nat} (h : adj g a b = true) : a < g.length ∧ b < g.length := by
  refine ⟨Classical.byContradiction fun hc => ?_, bit_lt (hg.nb_lt a) h⟩
  unfold adj nb at h
  rw [List.getD_eq_getElem?_getD, List.getElem?_eq_none (by omega)] at h
  simp at h

theorem GrB.pow {g : List Nat} (hg : GrB g) : 2 ^ g.length ≤ 1024 := Nat.pow_le_pow_right (n := 2) (by omega) hg.len

/-- What a node reaches within a set. -/
inductive Rch (g : List Nat) (W : Nat) (v : Nat) : Nat → Prop
  | base : Rch g W v v
  | step {a b : Nat} : Rch g W v a → adj g a b = true → W.testBit b = true → Rch g W v b

open Classical in
/-- The set of these. -/
noncomputable def rch (g : List Nat) (W v : Nat) : Nat := mkS (fun u => decide (Rch g W v u)) 10

theorem rch_lt (g : List Nat) (W v : Nat) : rch g W v < 1024 := mkS_lt _ 10

theorem Rch.bound {g : List Nat} {W v u : Nat} (hv : v < 10) (hW : W < 1024) (h : Rch g W v u) : u < 10 := by
  cases h with
  | base => exact hv
  | step _ _ hb => exact bit_lt (n := 10) hW hb

open Classical in
theorem rch_bit {g : List Nat} {W v u : Nat} (hv : v < 10) (hW : W < 1024) : (rch g W v).testBit u = true ↔ Rch g W v u := by
  unfold rch
  rw [mkS_bit, Bool.and_eq_true, decide_eq_true_iff, decide_eq_true_iff]
  exact ⟨And.right, fun h => ⟨h.bound hv hW, h⟩⟩

/-- A set that has the node, and of which all has been reached, and that is closed, is the set of all that is reached. -/
theorem rch_eq {g : List Nat} {W v S : Nat} (hv : v < 10) (hW : W < 1024) (hS : S < 1024) (h0 : S.testBit v = true) (h1 : ∀ u, S.testBit u = true → Rch g W v u) (h2 : ∀ a b, S.testBit a = true → adj g a b = true → W.testBit b = true → S.testBit b = true) : S = rch g W v := by
  refine set_ext (n := 10) hS (rch_lt g W v) fun i hi => ?_
  clear hi
  rw [Bool.eq_iff_iff, rch_bit hv hW]
  refine ⟨h1 i, fun h => ?_⟩
  induction h with
  | base => exact h0
  | step _ hab hb ih => exact h2 _ _ ih hab hb

theorem orAll {g : List Nat} {W u : Nat} : ∀ (L : List Nat) (s : Nat), (L.foldl (fun s i => s ||| (nb g i &&& W)) s).testBit u = true ↔ s.testBit u = true ∨ ∃ i ∈ L, adj g i u = true ∧ W.testBit u = true := by
  intro L
  induction L with
  | nil => intro s; simp
  | cons i L ih =>
    intro s
    rw [List.foldl_cons, ih, Nat.testBit_or, Nat.testBit_and, Bool.or_eq_true, Bool.and_eq_true]
    constructor
    · rintro ((h | h) | ⟨j, hj, h⟩)
      · exact .inl h
      · exact .inr ⟨i, List.mem_cons_self, h⟩
      · exact .inr ⟨j, List.mem_cons_of_mem _ hj, h⟩
    · rintro (h | ⟨j, hj, h⟩)
      · exact .inl (.inl h)
      · rcases List.mem_cons.1 hj with rfl | hj
        · exact .inl (.inr h)
        · exact .inr ⟨j, hj, h⟩

/-- One step of the search. -/
def grow (g : List Nat) (W S : Nat) : Nat := (elts S).foldl (fun s i => s ||| (nb g i &&& W)) S

theorem grow_bit {g : List Nat} {W S u : Nat} (hS : S < 1024) : (grow g W S).testBit u = true ↔ S.testBit u = true ∨ ∃ i, S.testBit i = true ∧ adj g i u = true ∧ W.testBit u = true := by
  unfold grow
  rw [orAll]
  simp only [mem_elts hS]

/-- One round of the document's search. -/
def stepD (g : List Nat) (W : Nat) (m i : Nat) : Nat := if m.testBit i = true then m ||| (nb g i &&& W) else m

def roundD (g : List Nat) (W m : Nat) : Nat := (List.range g.length).foldl (stepD g W) m

theorem stepD_mono {g : List Nat} {W m i u : Nat} (h : m.testBit u = true) : (stepD g W m i).testBit u = true := by
  unfold stepD
  split
  · rw [Nat.testBit_or, h]; rfl
  · exact h

theorem foldD_mono {g : List Nat} {W u : Nat} : ∀ (L : List Nat) (m : Nat), m.testBit u = true → (L.foldl (stepD g W) m).testBit u = true := by
  intro L
  induction L with
  | nil => intro m h; exact h
  | cons i L ih => intro m h; exact ih _ (stepD_mono h)

theorem foldD_lt {g : List Nat} {W n : Nat} (hW : W < 2 ^ n) : ∀ (L : List Nat) (m : Nat), m < 2 ^ n → L.foldl (stepD g W) m < 2 ^ n := by
  intro L
  induction L with
  | nil => intro m h; exact h
  | cons i L ih =>
    intro m h
    refine ih _ ?_
    unfold stepD
    split
    · exact Nat.or_lt_two_pow h (Nat.and_lt_two_pow _ hW)
    · exact h

theorem foldD_rch {g : List Nat} {W v : Nat} : ∀ (L : List Nat) (m : Nat), (∀ u, m.testBit u = true → Rch g W v u) → ∀ u, (L.foldl (stepD g W) m).testBit u = true → Rch g W v u := by
  intro L
  induction L with
  | nil => intro m h; exact h
  | cons i L ih =>
    intro m h
    refine ih _ fun u hu => ?_
    unfold stepD at hu
    split at hu
    · rename_i hi
      rw [Nat.testBit_or, Nat.testBit_and, Bool.or_eq_true, Bool.and_eq_true] at hu
      rcases hu with hu | ⟨h1, h2⟩
      · exact h u hu
      · exact .step (h i hi) h1 h2
    · exact h u hu

theorem foldD_closed {g : List Nat} {W : Nat} : ∀ (L : List Nat) (m : Nat), L.foldl (stepD g W) m = m → ∀ a b, a ∈ L → m.testBit a = true → adj g a b = true → W.testBit b = true → m.testBit b = true := by
  intro L
  induction L with
  | nil => intro m _ a b h; cases h
  | cons i L ih =>
    intro m hm a b ha hma hab hb
    rw [List.foldl_cons] at hm
    have h1 : stepD g W m i = m := by
      apply Nat.eq_of_testBit_eq
      intro u
      rw [Bool.eq_iff_iff]
      refine ⟨fun h => ?_, stepD_mono⟩
      rw [← hm]
      exact foldD_mono L _ h
    rcases List.mem_cons.1 ha with rfl | ha
    · unfold stepD at h1
      rw [if_pos hma] at h1
      rw [← h1, Nat.testBit_or, Nat.testBit_and]
      have : (nb g a).testBit b = true := hab
      rw [this, hb]
      simp
    · rw [h1] at hm
      exact ih m hm a b ha hma hab hb

/-- The document's search finds all that is reached. -/
theorem reachD {g : List Nat} {W v : Nat} (hg : GrB g) (hv : v < g.length) (hW : W < 2 ^ g.length) : (List.range g.length).foldl (fun m _ => roundD g W m) (2 ^ v) = rch g W v := by
  have hlen := hg.len
  have hW' : W < 1024 := Nat.lt_of_lt_of_le hW hg.pow
  have key : ∀ k, let m := (List.range k).foldl (fun m _ => roundD g W m) (2 ^ v)
      m < 2 ^ g.length ∧ m.testBit v = true ∧ (∀ u, m.testBit u = true → Rch g W v u) ∧ (roundD g W m = m ∨ k + 1 ≤ pop m) := by
    intro k
    induction k with
    | zero =>
      refine ⟨Nat.pow_lt_pow_right (by omega) hv, by simp [Nat.testBit_two_pow], fun u hu => ?_, .inr ?_⟩
      · rw [List.range_zero, List.foldl_nil, Nat.testBit_two_pow] at hu
        have : v = u := by simpa using hu
        subst this
        exact .base
      · have : pop 0 < pop (2 ^ v) := pop_lt (i := v) (Nat.lt_of_lt_of_le (Nat.pow_lt_pow_right (by omega) hv) hg.pow) (fun j h => by simp at h) (by simp [Nat.testBit_two_pow]) (by simp)
        simp only [List.range_zero, List.foldl_nil]
        omega
    | succ k ih =>
      simp only at ih
      simp only [List.range_succ, List.foldl_append, List.foldl_cons, List.foldl_nil]
      generalize (List.range k).foldl (fun m _ => roundD g W m) (2 ^ v) = m at *
      obtain ⟨h1, h2, h3, h4⟩ := ih
      refine ⟨foldD_lt hW _ _ h1, foldD_mono _ _ h2, foldD_rch _ _ h3, ?_⟩
      by_cases he : roundD g W m = m
      · left
        rw [he]; exact he
      · right
        have hp := h4.resolve_left he
        obtain ⟨i, hi⟩ : ∃ i, (roundD g W m).testBit i ≠ m.testBit i := by
          refine Classical.byContradiction fun hc => he (Nat.eq_of_testBit_eq fun i => Classical.byContradiction fun h => hc ⟨i, h⟩)
        have hmi : m.testBit i = false := by
          cases hh : m.testBit i with
          | false => rfl
          | true =>
            have : (roundD g W m).testBit i = true := foldD_mono _ _ hh
            rw [this, hh] at hi
            exact absurd rfl hi
        have hri : (roundD g W m).testBit i = true := by
          cases hh : (roundD g W m).testBit i with
          | true => rfl
          | false => rw [hh, hmi] at hi; exact absurd rfl hi
        have hlt : roundD g W m < 1024 := Nat.lt_of_lt_of_le (foldD_lt hW _ _ h1) hg.pow
        have := pop_lt hlt (fun j hj => foldD_mono (g := g) (W := W) (List.range g.length) m hj) hri hmi
        omega
  obtain ⟨h1, h2, h3, h4⟩ := key g.length
  generalize (List.range g.length).foldl (fun m _ => roundD g W m) (2 ^ v) = m at *
  have hfix : roundD g W m = m := by
    refine h4.resolve_right fun h => ?_
    have := pop_le_n hlen h1
    omega
  refine rch_eq (by omega) hW' (Nat.lt_of_lt_of_le h1 hg.pow) h2 h3 fun a b ha hab hb => ?_
  exact foldD_closed _ m hfix a b (List.mem_range.2 (hg.adj_lt hab).1) ha hab hb

end Go.AM

end

section

/- The nodes of a set; what a node reaches; is a set connected? -/
namespace Go.AM
open Go.Proofs
variable {R : Type}
attribute [local simp] nx_eq nx_new nx_set blk_new blk_set asI_int asK_int asB_bool asP_ptr al_eq bx_eq len_slice onE_exit onE_ret onR_ret Value.cells d3 d22 d23 cell_new cell_set rd_new rd_set off eq lt le ifB gv out
/-- Numbers, as they stand in a row. -/
abbrev cellsN (l : List Nat) : List (List Value) := l.map fun (n : Nat) => [iv (n : Int)]

theorem cellsN_eq (l : List Nat) : cellsI (l.map Int.ofNat) = cellsN l := by rw [cellsI, List.map_map]; rfl

/-- A graph that is valid. -/
structure GrN (g : List Nat) : Prop extends GrB g where
  pos : 1 ≤ g.length
  irr : ∀ a, adj g a a = false
  sym : ∀ a b, adj g a b = adj g b a

theorem bitI_nat {a p : Nat} (ha : a < 2 ^ 63) (hp : p ≤ 64) : bitI a p = if a.testBit p then 1 else 0 := bit_nat ha hp

theorem valid_nat {l : List Int} (hv : validG l = true) : ∃ g : List Nat, l = g.map Int.ofNat ∧ GrN g := by
  have hl : 1 ≤ l.length ∧ l.length ≤ 10 := by
    unfold validG at hv
    simp only [Bool.and_eq_true, decide_eq_true_iff] at hv
    exact hv.1
  have hrow := (validG_iff hl).1 hv
  have hshl : AM.shl .i64 1 (l.length : Int) = ((2 ^ l.length : Nat) : Int) := shl1_nat (by omega)
  have hpow : 2 ^ l.length ≤ 1024 := Nat.pow_le_pow_right (n := 2) (by omega) hl.2
  have hb : ∀ (i : Nat) (x : Int), l[i]? = some x → 0 ≤ x ∧ x < (2 ^ l.length : Nat) ∧ bitI x i ≠ 1 ∧ ∀ (j : Nat) (y : Int), l[j]? = some y → bitI x j = bitI y i := by
    intro i x hx
    have := hrow i x hx
    unfold rowOk at this
    rw [hshl] at this
    simp only [Bool.and_eq_true, Bool.not_eq_true', decide_eq_false_iff_not, List.all_eq_true, List.mem_range, decide_eq_true_iff] at this
    refine ⟨by omega, by omega, this.1.2, fun j y hy => ?_⟩
    have h := this.2 j (List.getElem?_eq_some_iff.1 hy).1
    simpa [List.getD, hy] using h
  have hmap : l = (l.map Int.toNat).map Int.ofNat := by
    rw [List.map_map]
    symm
    conv => rhs; rw [← List.map_id l]
    refine List.map_congr_left fun x hx => ?_
    obtain ⟨i, hi, rfl⟩ := List.getElem_of_mem hx
    have := hb i _ (List.getElem?_eq_getElem hi)
    simp only [Function.comp_apply, id_eq]
    show ((l[i].toNat : Nat) : Int) = l[i]
    omega
  refine ⟨l.map Int.toNat, hmap, ⟨⟨by simpa using hl.2, fun x hx => ?_⟩, by simpa using hl.1, fun a => ?_, fun a b => ?_⟩⟩
  · obtain ⟨y, hy, rfl⟩ := List.mem_map.1 hx
    obtain ⟨i, hi, rfl⟩ := List.getElem_of_mem hy
    have := hb i _ (List.getElem?_eq_getElem hi)
    rw [List.length_map]
    omega
  all_goals
    have hnb : ∀ i, (∃ x : Nat, l[i]? = some (x : Int) ∧ nb (l.map Int.toNat) i = x ∧ x < 1024) ∨ (l[i]? = none ∧ nb (l.map Int.toNat) i = 0) := by
      intro i
      unfold nb
      rw [List.getD_eq_getElem?_getD, List.getElem?_map]
      cases hx : l[i]? with
      | none => exact .inr ⟨rfl, rfl⟩
      | some x =>
        have := hb i x hx
        exact .inl ⟨x.toNat, by simp; omega, rfl, by omega⟩
  · unfold adj
    rcases hnb a with ⟨x, h1, h2, h3⟩ | ⟨_, h2⟩
    · rw [h2]
      have := (hb a x h1).2.2.1
      rw [bitI_nat (by omega) (by have := (List.getElem?_eq_some_iff.1 h1).1; omega)] at this
      cases hq : x.testBit a with
      | false => rfl
      | true => rw [hq] at this; simp at this
    · rw [h2]; simp
  · unfold adj
    rcases hnb a with ⟨x, h1, h2, h3⟩ | ⟨h1, h2⟩
    · rcases hnb b with ⟨y, h4, h5, h6⟩ | ⟨h4, h5⟩
      · rw [h2, h5]
        have := (hb a x h1).2.2.2 b y h4
        rw [bitI_nat (by omega) (by have := (List.getElem?_eq_some_iff.1 h4).1; omega), bitI_nat (by omega) (by have := (List.getElem?_eq_some_iff.1 h1).1; omega)] at this
        cases hq : x.testBit b <;> cases hr : y.testBit a <;> simp [hq, hr] at this ⊢
      · rw [h5]
        have hbl : l.length ≤ b := by
          refine Classical.byContradiction fun hc => ?_
          rw [List.getElem?_eq_getElem (by omega)] at h4
          cases h4
        have hxl : x < 2 ^ l.length := by have := (hb a x h1).2.1; omega
        rw [h2, big_bit hxl hbl]; simp
    · rw [h2]
      have hal : l.length ≤ a := by
        refine Classical.byContradiction fun hc => ?_
        rw [List.getElem?_eq_getElem (by omega)] at h1
        cases h1
      rcases hnb b with ⟨y, h4, h5, h6⟩ | ⟨h4, h5⟩
      · have hyl : y < 2 ^ l.length := by have := (hb b y h4).2.1; omega
        rw [h5, big_bit hyl hal]; simp
      · rw [h5]; simp

theorem wr64u {n : Nat} (h : n < 1024) : wr .u64 (n : Int) = n := by
  unfold wr IntKind.wrap
  show (n : Int) % 2 ^ 64 = n
  omega

theorem getN {h : H} {v : Value} {g : List Nat} (hs : SlR h 3 1 v (cellsN g)) {i : Nat} (hi : i < g.length) (K : Value → Option R) : (six v (i : Int) 1 fun b o => (h.cell b o).bind K) = K (iv (nb g i : Nat)) := by
  have : g[i]? = some (nb g i) := by unfold nb; rw [List.getD_eq_getElem?_getD, List.getElem?_eq_getElem hi]; rfl
  exact hs.c0 (by omega) (x := [iv (nb g i : Nat)]) (by simp [this]) rfl K

/-- The nodes of a set. -/
theorem s76 {S : Nat} (hS : S < 1024) (h : H) : ∃ v' h', rn 76 #[iv S] h = some (v', h') ∧ Exw h h' ∧ SlR h' 3 1 v' (cellsN (elts S)) := by
  obtain ⟨e, ws', h', hl, rfl, xg, v, w, hap, rfl⟩ := lpGo_inv (F := f76_l1 rn 2000)
    (fun d ws g => Ext h g ∧ ∃ (v : Value) (x : Nat) (L : List Nat), ws = [v, iv x] ∧ d = x ∧ x < 1024 ∧ L ++ elts x = elts S ∧ AqR h.nx g 3 1 v (cellsN L))
    (fun e ws g => e = .exit 0 ∧ Ext h g ∧ ∃ v w, AqR h.nx g 3 1 v (cellsN (elts S)) ∧ ws = [v, w])
    (by
      rintro d ws g ⟨xg, v, x, L, rfl, rfl, hx, hL, hap⟩
      by_cases hx0 : d = 0
      · subst hx0
        rw [elts_zero, List.append_nil] at hL
        subst hL
        exact ⟨.exit 0, [v, iv 0], _, by simp [f76_l1], .inr ⟨by simp, rfl, xg, v, iv 0, hap, rfl⟩⟩
      · have h0 : 0 < d := Nat.pos_of_ne_zero hx0
        obtain ⟨h1, h2⟩ := elts_next h0 hx
        have c89 := fun (K : Value → H → Option (Ex × List Value × H)) => calls_eq (K := K) (xs := [.int .u64 d]) (s89 h0 hx g)
        have hsub : sub .i64 (d : Int) 1 = ((d - 1 : Nat) : Int) := by rw [sub64 (by omega) (by omega)]; omega
        have hand : AM.and .i64 (d : Int) ((d - 1 : Nat) : Int) = ((d &&& (d - 1) : Nat) : Int) := and_nat (by omega) (by omega)
        have hLl : L.length ≤ 10 := by
          have h3 := congrArg List.length hL
          rw [List.length_append, elts_len S] at h3
          have := pop_le_n (Nat.le_refl 10) hS
          omega
        obtain ⟨v', g2, e2, a2, n2, k2, b2, hb2, hb2'⟩ := hap.push app22 app22 (bls22 (low d : Int)) rfl rfl (by simp; omega) xg.nx
        have ee : ∀ (K : Value → H → Option (Ex × List Value × H)), (bls Tryd.prog g 22 1 [(0, iv (low d : Nat))] fun y h2 => app Tryd.prog h2 22 22 v y K) = K v' g2 := fun K => e2 K
        refine ⟨.normal, [v', iv (d &&& (d - 1) : Nat)], g2, ?_, .inl ⟨rfl, d &&& (d - 1), h2, ⟨by have := xg.nx; omega, fun b hb => ?_⟩, v', d &&& (d - 1), L ++ [low d], rfl, rfl, by omega, ?_, ?_⟩⟩
        · unfold f76_l1
          rw [show AM.gv [v, iv d] 1 = iv d from rfl, show AM.gv [v, iv d] 0 = v from rfl, asI_int, show AM.eq (d : Int) 0 = false by simp; omega, show (!false) = true from rfl, ifB_true, asI_int, wr64u hx, c89, asI_int, ee, asI_int, asI_int, hsub, hand]
          rfl
        · rw [k2 b (by have := xg.nx; omega) (fun e => by have := (hap.blkOf e).1; omega)]
          exact xg.blk b hb
        · rw [← hL, h1]; simp
        · have : cellsN (L ++ [low d]) = cellsN L ++ [[iv (low d : Int)]] := by simp
          rw [this]; exact a2)
    S 2000 (by omega) ⟨.refl _, .slice none 0 0, S, [], rfl, rfl, hS, rfl, .nil⟩
  obtain ⟨h2, e2, m2, w2⟩ := x76 (k := 2000) (n0 := S) (h := h) (h1 := h') (v := v) (by
    unfold f76
    exact (lp_eq hl).trans rfl) (by obtain ⟨x, y, z, hz⟩ := hap.isSl; rw [hz]; rfl)
  exact ⟨v, h2, e2, w2 xg, hap.slR.ext m2.ext⟩

/-- What a node reaches within a set. -/
theorem s78 {tv : Value} {g : List Nat} {W v : Nat} {h : H} (hg : GrB g) (hs : SlR h 3 1 tv (cellsN g)) (hv : v < g.length) (hW : W < 2 ^ g.length) : rn 78 #[tv, iv v, iv W] h = some (iv (rch g W v : Nat), h) := by
  have hlen := hg.len
  have hpow := hg.pow
  have hW' : W < 1024 := Nat.lt_of_lt_of_le hW hpow
  have hinner : ∀ (S : Nat) (nv : Value) (h2 : H), Ext h h2 → S < 2 ^ g.length → SlR h2 3 1 nv (cellsN (elts S)) →
      lpGo (f78_l2 rn 2000 tv W nv (elts S).length) 2000 [iv S, iv 0] h2 = some (.exit 2, [iv (grow g W S : Nat), iv (elts S).length], h2) := by
    intro S nv h2 x2 hS hn
    have hS' : S < 1024 := Nat.lt_of_lt_of_le hS hpow
    have hpl : (elts S).length ≤ 10 := by rw [elts_len]; exact pop_le_n (Nat.le_refl 10) hS'
    have hl := lp_same (σ := Nat) (ρ := Empty) (F := f78_l2 rn 2000 tv W nv (elts S).length) (k := 2000) (l := elts S) (h := h2) (fun i s => [iv s, iv i])
      (fun _ i s => .inl (s ||| (nb g i &&& W))) (fun _ s => s < 1024) (fun _ => .ret) (fun _ => []) 2 (fun s => [iv s, iv (elts S).length]) (ws := [iv S, iv 0]) (s0 := S) rfl hS' (by omega) (by simp)
      (fun _ _ => by simp [f78_l2])
      (by
        intro i x s hx hI
        have hi := (List.getElem?_eq_some_iff.1 hx).1
        have hxS := (mem_elts hS').1 (List.mem_of_getElem? hx)
        have hxl : x < g.length := bit_lt hS hxS
        have hnw : nb g x &&& W < 1024 := Nat.and_lt_two_pow (n := 10) _ hW'
        refine ⟨fun s' hs' => by cases hs'; exact Nat.or_lt_two_pow (n := 10) hI hnw, ?_⟩
        have e1 : ∀ (K : Value → Option (Ex × List Value × H)), (six nv (i : Int) 1 fun b o => (h2.cell b o).bind K) = K (iv x) := fun K => hn.c0 (by omega) (x := [iv x]) (by simp [hx]) rfl K
        have e2 := fun (K : Value → Option (Ex × List Value × H)) => getN (hs.ext x2) hxl K
        have hand : AM.and .i64 (nb g x : Int) (W : Int) = ((nb g x &&& W : Nat) : Int) := and_nat (by have := hg.nb_lt x; omega) (by omega)
        have hor : AM.or .i64 (s : Int) ((nb g x &&& W : Nat) : Int) = ((s ||| (nb g x &&& W) : Nat) : Int) := or_nat (by omega) (by omega)
        have hadd : add .i64 (i : Int) 1 = (i : Int) + 1 := add64 (by omega) (by omega)
        simp [f78_l2, hi, e1, e2, hand, hor, hadd, rnd])
    rw [itL_inl (fun _ i s => s ||| (nb g i &&& W)), foldI_foldl (fun i s => s ||| (nb g i &&& W))] at hl
    exact hl.1
  obtain ⟨e, ws', h', hl, rfl, xg, w, rfl⟩ := lpGo_inv (F := f78_l1 rn 2000 tv W)
    (fun d ws h2 => Ext h h2 ∧ ∃ S : Nat, ws = [iv 0, iv S] ∧ S < 2 ^ g.length ∧ d + pop S = 10 ∧ S.testBit v = true ∧ ∀ u, S.testBit u = true → Rch g W v u)
    (fun e ws h2 => e = .ret ∧ Ext h h2 ∧ ∃ w, ws = [iv (rch g W v : Nat), w])
    (by
      rintro d ws h2 ⟨x2, S, rfl, hS, hd, hSv, hSr⟩
      have hS' : S < 1024 := Nat.lt_of_lt_of_le hS hpow
      obtain ⟨nv, h3, e76, x3w, hn⟩ := s76 hS' h2
      have x3 := x3w.toExt
      have hl := hinner S nv h3 (x2.trans x3) hS hn
      have hnl : ∀ {T : Type} (K : Int → Option T), len nv K = K ((elts S).length : Int) := fun K => by rw [hn.len]; simp
      have start : f78_l1 rn 2000 tv W [iv 0, iv S] h2 = if grow g W S = S then some (.ret, [iv S, iv S], h3) else some (.normal, [iv 0, iv (grow g W S : Nat)], h3) := by
        unfold f78_l1
        rw [show AM.gv [iv 0, iv S] 1 = iv S from rfl, calls_eq (xs := [iv S]) e76, hnl]
        refine (lp_eq hl).trans ?_
        rw [onE_exit, if_pos rfl, show AM.gv [iv (grow g W S : Nat), iv (elts S).length] 0 = iv (grow g W S : Nat) from rfl, asI_int, asI_int]
        by_cases hq : grow g W S = S
        · rw [if_pos hq, hq, show AM.eq (S : Int) (S : Int) = true by simp, ifB_true]; rfl
        · rw [if_neg hq, show AM.eq (grow g W S : Int) (S : Int) = false by simp; omega, ifB_false]; rfl
      rw [start]
      by_cases hq : grow g W S = S
      · rw [if_pos hq]
        refine ⟨_, _, _, rfl, .inr ⟨by simp, rfl, x2.trans x3, iv S, ?_⟩⟩
        rw [rch_eq (g := g) (W := W) (v := v) (by omega) hW' hS' hSv hSr fun a b ha hab hb => by
          rw [← hq, grow_bit hS']
          exact .inr ⟨a, ha, hab, hb⟩]
      · rw [if_neg hq]
        have hsub : ∀ u, S.testBit u = true → (grow g W S).testBit u = true := fun u hu => (grow_bit hS').2 (.inl hu)
        have hglt : grow g W S < 2 ^ g.length := by
          have key : ∀ (L : List Nat) (s : Nat), s < 2 ^ g.length → L.foldl (fun s i => s ||| (nb g i &&& W)) s < 2 ^ g.length := by
            intro L
            induction L with
            | nil => intro s h; exact h
            | cons i L ih => intro s h; exact ih _ (Nat.or_lt_two_pow h (Nat.and_lt_two_pow _ hW))
          exact key _ _ hS
        obtain ⟨i, hi⟩ : ∃ i, (grow g W S).testBit i ≠ S.testBit i := by
          refine Classical.byContradiction fun hc => hq (Nat.eq_of_testBit_eq fun i => Classical.byContradiction fun h => hc ⟨i, h⟩)
        have hSi : S.testBit i = false := by
          cases hh : S.testBit i with
          | false => rfl
          | true => rw [hh, hsub i hh] at hi; exact absurd rfl hi
        have hGi : (grow g W S).testBit i = true := by
          cases hh : (grow g W S).testBit i with
          | true => rfl
          | false => rw [hh, hSi] at hi; exact absurd rfl hi
        have hp := pop_lt (Nat.lt_of_lt_of_le hglt hpow) hsub hGi hSi
        have hp2 := pop_le_n (Nat.le_refl 10) (Nat.lt_of_lt_of_le hglt hpow)
        refine ⟨_, _, _, rfl, .inl ⟨rfl, 10 - pop (grow g W S), by omega, x2.trans x3, grow g W S, rfl, hglt, by omega, hsub v hSv, fun u hu => ?_⟩⟩
        rcases (grow_bit hS').1 hu with h | ⟨a, ha, hab, hb⟩
        · exact hSr u h
        · exact .step (hSr a ha) hab hb)
    (10 - pop (2 ^ v)) 2000 (by omega) ⟨.refl _, 2 ^ v, rfl, Nat.pow_lt_pow_right (by omega) hv, by
      have := pop_le_n (Nat.le_refl 10) (show 2 ^ v < 2 ^ 10 from Nat.pow_lt_pow_right (by omega) (by omega))
      omega, by simp [Nat.testBit_two_pow], fun u hu => by
      rw [Nat.testBit_two_pow] at hu
      have : v = u := by simpa using hu
      subst this
      exact .base⟩
  refine p78 (k := 2000) (h1 := h') ?_ rfl xg
  unfold f78
  rw [nn_ge (by omega), shl1_nat (by omega)]
  refine (lp_eq hl).trans ?_
  rw [onR_ret]
  rfl

/-- The document's Reached. -/
theorem s33 {tv : Value} {g : List Nat} {W v : Nat} {h : H} (hg : GrB g) (hs : SlR h 3 1 tv (cellsN g)) (hv : v < g.length) (hW : W < 2 ^ g.length) : rn 33 #[tv, iv W, iv v] h = some (iv (rch g W v : Nat), h) := by
  have hlen := hg.len
  have hpow := hg.pow
  have hW' : W < 1024 := Nat.lt_of_lt_of_le hW hpow
  have hn : ∀ {T : Type} (K : Int → Option T), len tv K = K (g.length : Int) := fun K => by rw [hs.len]; simp
  have hinner : ∀ (m : Nat), m < 1024 → lpGo (f33_l2 rn 200 tv W g.length) 200 [iv m, iv 0] h = some (.exit 2, [iv (roundD g W m : Nat), iv g.length], h) := by
    intro m hm
    have hl := lp_same (σ := Nat) (ρ := Empty) (F := f33_l2 rn 200 tv W g.length) (k := 200) (l := List.range g.length) (h := h) (fun i s => [iv s, iv i])
      (fun _ i s => .inl (stepD g W s i)) (fun _ s => s < 1024) (fun _ => .ret) (fun _ => []) 2 (fun s => [iv s, iv g.length]) (ws := [iv m, iv 0]) (s0 := m) rfl hm (by simp; omega) (by simp)
      (fun _ _ => by rw [List.length_range]; simp [f33_l2])
      (by
        intro i x s hx hI
        obtain ⟨hi, rfl⟩ := range_get hx
        have hnw : nb g x &&& W < 1024 := Nat.and_lt_two_pow (n := 10) _ hW'
        have hst : stepD g W s x < 1024 := by
          unfold stepD
          split
          · exact Nat.or_lt_two_pow (n := 10) hI hnw
          · exact hI
        refine ⟨fun s' hs' => by cases hs'; exact hst, ?_⟩
        have e2 := fun (K : Value → Option (Ex × List Value × H)) => getN hs hi K
        have hand : AM.and .i64 (nb g x : Int) (W : Int) = ((nb g x &&& W : Nat) : Int) := and_nat (by have := hg.nb_lt x; omega) (by omega)
        have hor : AM.or .i64 (s : Int) ((nb g x &&& W : Nat) : Int) = ((s ||| (nb g x &&& W) : Nat) : Int) := or_nat (by omega) (by omega)
        have hadd : add .i64 (x : Int) 1 = (x : Int) + 1 := add64 (by omega) (by omega)
        have hbit : AM.and .i64 (shr .i64 (s : Int) (x : Int)) 1 = if s.testBit x then 1 else 0 := bit_nat (by omega) (by omega)
        unfold stepD
        by_cases hb : s.testBit x = true
        · simp [f33_l2, hi, nn_ge (show (0 : Int) ≤ (x : Int) by omega), hbit, hb, e2, hand, hor, hadd, rnd]
        · simp [f33_l2, hi, nn_ge (show (0 : Int) ≤ (x : Int) by omega), hbit, hb, hadd, rnd])
    rw [itL_inl (fun _ i s => stepD g W s i), foldI_foldl (fun i s => stepD g W s i)] at hl
    exact hl.1
  have hl := lp_same (σ := Nat) (ρ := Empty) (F := f33_l1 rn 200 tv W g.length) (k := 200) (l := List.range g.length) (h := h) (fun i s => [iv s, iv i])
    (fun _ _ s => .inl (roundD g W s)) (fun _ s => s < 1024) (fun _ => .ret) (fun _ => []) 0 (fun s => [iv s, iv g.length]) (ws := [iv (2 ^ v : Nat), iv 0]) (s0 := 2 ^ v) rfl (Nat.lt_of_lt_of_le (Nat.pow_lt_pow_right (by omega) hv) hpow) (by simp; omega) (by simp)
    (fun _ _ => by rw [List.length_range]; simp [f33_l1])
    (by
      intro i x s hx hI
      obtain ⟨hi, rfl⟩ := range_get hx
      refine ⟨fun s' hs' => by cases hs'; exact foldD_lt (n := 10) hW' _ _ hI, ?_⟩
      have hadd : add .i64 (x : Int) 1 = (x : Int) + 1 := add64 (by omega) (by omega)
      have hlq := fun (K : Ex → List Value → H → Option (Ex × List Value × H)) => lp_eq (K := K) (hinner s hI)
      simp [f33_l1, hi, hn, hlq, hadd, rnd])
  rw [itL_inl (fun _ _ s => roundD g W s), foldI_foldl (fun _ s => roundD g W s)] at hl
  have hfin := reachD hg hv hW
  rw [hfin] at hl
  refine p33 (k := 200) ?_ rfl (.refl _)
  unfold f33
  rw [nn_ge (by omega), hn, shl1_nat (by omega)]
  refine (lp_eq hl.1).trans ?_
  rfl

/-- All nodes. -/
def allN (g : List Nat) : Nat := 2 ^ g.length - 1

theorem allN_lt (g : List Nat) : allN g < 2 ^ g.length := by have := Nat.two_pow_pos g.length; unfold allN; omega

theorem allN_bit (g : List Nat) (i : Nat) : (allN g).testBit i = decide (i < g.length) := by unfold allN; rw [Nat.testBit_two_pow_sub_one]

theorem shl_all {n : Nat} (h : n ≤ 10) : sub .i64 (AM.shl .i64 1 (n : Int)) 1 = ((2 ^ n - 1 : Nat) : Int) := by
  have h1 : 2 ^ n ≤ 2 ^ 10 := Nat.pow_le_pow_right (by omega) h
  have h2 := Nat.two_pow_pos n
  rw [shl1_nat (by omega), sub64 (by omega) (by omega)]
  omega

theorem s65 {tv : Value} {g : List Nat} {h : H} (hg : GrB g) (hs : SlR h 3 1 tv (cellsN g)) : rn 65 #[tv] h = some (iv (allN g : Nat), h) := by
  have hn : ∀ {T : Type} (K : Int → Option T), len tv K = K (g.length : Int) := fun K => by rw [hs.len]; simp
  refine p65 (k := 0) ?_ rfl (.refl _)
  simp [f65, hn, nn_ge, shl_all hg.len, allN]

theorem s68 {tv : Value} {g : List Nat} {h : H} (hg : GrB g) (hs : SlR h 3 1 tv (cellsN g)) : rn 68 #[tv] h = some (iv (allN g : Nat), h) := by
  have hn : ∀ {T : Type} (K : Int → Option T), len tv K = K (g.length : Int) := fun K => by rw [hs.len]; simp
  refine p68 (k := 0) ?_ rfl (.refl _)
  simp [f68, hn, nn_ge, shl_all hg.len, allN]

/-- Is a set connected, if it is not empty? -/
noncomputable def connS (g : List Nat) (S : Nat) : Bool := decide (S = 0) || decide (rch g S (low S) = S)

theorem low_lt {g : List Nat} {S : Nat} (hg : GrB g) (hS : S < 2 ^ g.length) (h0 : S ≠ 0) : low S < g.length := bit_lt hS (low_bit (Nat.pos_of_ne_zero h0) (Nat.lt_of_lt_of_le hS hg.pow))

theorem s64 {tv : Value} {g : List Nat} {S : Nat} {h : H} (hg : GrB g) (hs : SlR h 3 1 tv (cellsN g)) (hS : S < 2 ^ g.length) : rn 64 #[tv, iv S] h = some (.bool (connS g S), h) := by
  have hS' : S < 1024 := Nat.lt_of_lt_of_le hS hg.pow
  refine p64 (k := 0) ?_ rfl (.refl _)
  unfold f64 connS
  by_cases h0 : S = 0
  · subst h0; simp
  · have c89 := fun (K : Value → H → Option (Value × H)) => calls_eq (K := K) (xs := [.int .u64 S]) (s89 (Nat.pos_of_ne_zero h0) hS' h)
    have c78 := fun (K : Value → H → Option (Value × H)) => calls_eq (K := K) (xs := [tv, iv (low S : Nat), iv S]) (s78 hg hs (low_lt hg hS h0) hS)
    rw [show AM.eq (S : Int) 0 = false by simp; omega, ifB_false, wr64u hS', c89, asI_int, c78, asI_int]
    have : AM.eq (rch g S (low S) : Int) (S : Int) = decide (rch g S (low S) = S) := by
      rw [Bool.eq_iff_iff]; simp; omega
    rw [this, decide_eq_false h0]
    rfl

theorem s67 {tv : Value} {g : List Nat} {S : Nat} {h : H} (hg : GrB g) (hs : SlR h 3 1 tv (cellsN g)) (hS : S < 2 ^ g.length) : rn 67 #[tv, iv S] h = some (.bool (decide (S ≠ 0) && connS g S), h) := by
  have hlen := hg.len
  have hpow := hg.pow
  have hS' : S < 1024 := Nat.lt_of_lt_of_le hS hpow
  have hn : ∀ {T : Type} (K : Int → Option T), len tv K = K (g.length : Int) := fun K => by rw [hs.len]; simp
  by_cases h0 : S = 0
  · subst h0
    exact p67 (k := 0) (by simp [f67]) rfl (.refl _)
  · have hpos : 0 < S := Nat.pos_of_ne_zero h0
    have hlb := low_bit hpos hS'
    have hll := low_lt hg hS h0
    obtain ⟨e, ws', h', hl, rfl, rfl, rfl⟩ := lpGo_inv (F := f67_l1 rn 200 S)
      (fun d ws g' => g' = h ∧ ∃ i : Nat, ws = [iv i] ∧ i + d = low S)
      (fun e ws g' => e = .exit 0 ∧ g' = h ∧ ws = [iv (low S : Nat)])
      (by
        rintro d ws g' ⟨rfl, i, rfl, hd⟩
        have hbit : AM.and .i64 (shr .i64 (S : Int) (i : Int)) 1 = if S.testBit i then 1 else 0 := bit_nat (by omega) (by omega)
        by_cases hb : S.testBit i = true
        · have := low_min hS' hb
          have hi : i = low S := by omega
          subst hi
          refine ⟨.exit 0, [iv (low S : Nat)], g', ?_, .inr ⟨by simp, rfl, rfl, rfl⟩⟩
          simp [f67_l1, nn_ge, hbit, hb]
        · have hne : i ≠ low S := fun e => hb (e ▸ hlb)
          have hadd : add .i64 (i : Int) 1 = ((i + 1 : Nat) : Int) := by rw [add64 (by omega) (by omega)]; omega
          refine ⟨.normal, [iv ((i + 1 : Nat) : Int)], g', ?_, .inl ⟨rfl, d - 1, by omega, rfl, i + 1, rfl, by omega⟩⟩
          simp [f67_l1, nn_ge, hbit, hb, hadd])
      (low S) 200 (by omega) ⟨rfl, 0, rfl, by omega⟩
    have c33 := fun (K : Value → H → Option (Value × H)) => calls_eq (K := K) (xs := [tv, iv S, iv (low S : Nat)]) (s33 hg hs hll hS)
    refine p67 (k := 200) ?_ rfl (.refl _)
    unfold f67
    rw [show AM.le (S : Int) 0 = false by simp; omega, ifB_false, hn, nn_ge (by omega), shl1_nat (by omega), show AM.le ((2 ^ g.length : Nat) : Int) (S : Int) = false by rw [AM.le, decide_eq_false_iff_not]; omega, ifB_false]
    refine (lp_eq hl).trans ?_
    rw [onE_exit, if_pos rfl, show AM.gv [iv (low S : Nat)] 0 = iv (low S : Nat) from rfl, c33, asI_int]
    have : AM.eq (rch g S (low S) : Int) (S : Int) = decide (rch g S (low S) = S) := by
      rw [Bool.eq_iff_iff]; simp; omega
    rw [this]
    unfold connS
    rw [decide_eq_true h0, decide_eq_false h0]
    rfl

end Go.AM

end
