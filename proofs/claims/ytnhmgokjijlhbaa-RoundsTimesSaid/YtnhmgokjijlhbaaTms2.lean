/- Parts of the proof, put together: what the functions of the program answer, and plain laws. -/
import Derived.Test.YtnhmgokjijlhbaaTms1

section

/- The staged forms of functions 16, and what calls of these answer. -/
namespace Go.AM
open Go.Proofs
noncomputable def f16_l1 (_rec : Rec) (_k : Nat) (n0 : Int) (h0 : H) (v20 : Value) (n5 : Int) (ws0 : List Value) (h11 : H) : Option (Ex × List Value × H) :=
  asI .i64 (gv ws0 0) fun n6 =>
  ifB (lt n6 n5) (
    asK (gv ws0 0) fun n7 =>
    six v20 n7 1 fun b0 b1 =>
    ld Try.prog h11 3 b0 b1 fun v21 =>
    asI .i64 v21 fun n8 =>
    ld Try.prog h11 3 (nx h0) 0 fun v22 =>
    asI .i64 v22 fun n9 =>
    nz (wr .u64 n9) (
      ld Try.prog h11 3 (nx h0) 0 fun v23 =>
      asI .i64 v23 fun n10 =>
      nz n10 (
        asK (gv ws0 0) fun n11 =>
        six v20 n11 1 fun b2 b3 =>
        st Try.prog h11 3 b2 b3 (.int .i64 (rem .i64 (add .i64 n8 (wr .i64 (rem .u64 (wr .u64 n0) (wr .u64 n9)))) n10)) fun h12 =>
        asI .i64 (gv ws0 0) fun n12 =>
        out .normal [(.int .i64 (add .i64 n12 1))] h12))) (
    out (.exit 0) [gv ws0 0] h11)

noncomputable def f16_l3 (_rec : Rec) (_k : Nat) (n2 : Int) (ws2 : List Value) (h22 : H) (v49 : Value) (n26 : Int) (ws3 : List Value) (h26 : H) : Option (Ex × List Value × H) :=
  asI .i64 (gv ws3 0) fun n27 =>
  ifB (lt n27 n26) (
    asK (gv ws3 0) fun n28 =>
    six v49 n28 4 fun b4 b5 =>
    ld Try.prog h26 67 b4 b5 fun v50 =>
    al h26 67 [(.int .i64 0), (.int .i64 0), (.int .i64 0), (.int .i64 0)] fun h27 =>
    st Try.prog h27 67 (nx h26) 0 v50 fun h28 =>
    asK (gv ws3 0) fun n29 =>
    nn n29 (
      ifB (eq (and .i64 (shr .i64 n2 n29) 1) 1) (
        asI .i64 (gv ws3 0) fun n30 =>
        asI .i64 (gv ws2 1) fun n31 =>
        ifB (not (eq n30 n31)) (
          ld Try.prog h28 50 (nx h22) (off 0 2) fun v51 =>
          ld Try.prog h28 67 (nx h26) 0 fun v52 =>
          bls Try.prog h28 50 1 [(0, v52)] fun v53 h29 =>
          app Try.prog h29 50 50 v51 v53 fun v54 h30 =>
          st Try.prog h30 50 (nx h22) (off 0 2) v54 fun h31 =>
          asI .i64 (gv ws3 0) fun n32 =>
          out .normal [(.int .i64 (add .i64 n32 1))] h31) (
          asI .i64 (gv ws3 0) fun n33 =>
          out .normal [(.int .i64 (add .i64 n33 1))] h28)) (
        asI .i64 (gv ws3 0) fun n34 =>
        out .normal [(.int .i64 (add .i64 n34 1))] h28))) (
    out (.exit 4) [gv ws3 0] h26)

noncomputable def f16_l4 (_rec : Rec) (_k : Nat) (n2 : Int) (ws2 : List Value) (h22 : H) (v64 : Value) (n40 : Int) (ws5 : List Value) (h37 : H) : Option (Ex × List Value × H) :=
  asI .i64 (gv ws5 0) fun n41 =>
  ifB (lt n41 n40) (
    asK (gv ws5 0) fun n42 =>
    six v64 n42 4 fun b6 b7 =>
    ld Try.prog h37 67 b6 b7 fun v65 =>
    al h37 67 [(.int .i64 0), (.int .i64 0), (.int .i64 0), (.int .i64 0)] fun h38 =>
    st Try.prog h38 67 (nx h37) 0 v65 fun h39 =>
    asK (gv ws5 0) fun n43 =>
    nn n43 (
      ifB (eq (and .i64 (shr .i64 n2 n43) 1) 1) (
        asI .i64 (gv ws5 0) fun n44 =>
        asI .i64 (gv ws2 1) fun n45 =>
        ifB (not (eq n44 n45)) (
          ld Try.prog h39 50 (nx h22) (off 0 2) fun v66 =>
          ld Try.prog h39 67 (nx h37) 0 fun v67 =>
          bls Try.prog h39 50 1 [(0, v67)] fun v68 h40 =>
          app Try.prog h40 50 50 v66 v68 fun v69 h41 =>
          st Try.prog h41 50 (nx h22) (off 0 2) v69 fun h42 =>
          asI .i64 (gv ws5 0) fun n46 =>
          out .normal [(.int .i64 (add .i64 n46 1))] h42) (
          asI .i64 (gv ws5 0) fun n47 =>
          out .normal [(.int .i64 (add .i64 n47 1))] h39)) (
        asI .i64 (gv ws5 0) fun n48 =>
        out .normal [(.int .i64 (add .i64 n48 1))] h39))) (
    out (.exit 4) [gv ws5 0] h37)

noncomputable def f16_l2 (rec : Rec) (k : Nat) (h0 : H) (n2 : Int) (ws2 : List Value) (h22 : H) : Option (Ex × List Value × H) :=
  ld Try.prog h22 45 (nx h0) (off 0 2) fun v43 =>
  len v43 fun n19 =>
  asI .i64 (gv ws2 1) fun n20 =>
  ifB (lt n20 n19) (
    asI .i64 (gv ws2 1) fun n21 =>
    ifB (le 0 n21) (
      asK (gv ws2 1) fun n22 =>
      nn n22 (
        ifB (eq (and .i64 (shr .i64 n2 n22) 1) 0) (
          asI .i64 (gv ws2 1) fun n23 =>
          out .normal [gv ws2 0, (.int .i64 (add .i64 n23 1))] h22) (
          ld Try.prog h22 3 (nx h0) 0 fun v44 =>
          asI .i64 v44 fun n24 =>
          ld Try.prog h22 3 (nx h0) (off 0 1) fun v45 =>
          asI .i64 v45 fun n25 =>
          bld Try.prog 52 [(0, (.int .i64 n24)), (1, (.int .i64 n25))] fun v46 =>
          al h22 52 [(.int .i64 0), (.int .i64 0), (.slice none 0 0)] fun h23 =>
          st Try.prog h23 52 (nx h22) 0 v46 fun h24 =>
          ld Try.prog h24 47 (nx h0) 0 fun v47 =>
          calls rec h24 37 [v47] fun v48 h25 =>
          fld Try.prog 52 v48 2 fun v49 =>
          len v49 fun n26 =>
          lp k (f16_l3 rec k n2 ws2 h22 v49 n26) [(.int .i64 0)] h25 fun e1 _ h32 =>
          onE e1 4 (
            ld Try.prog h32 52 (nx h22) 0 fun v55 =>
            calls rec h32 47 [v55] fun v56 h33 =>
            ext v56 0 fun _ =>
            ext v56 1 fun v58 =>
            asI .i64 v58 fun n35 =>
            asI .i64 (gv ws2 1) fun n36 =>
            eqv Try.prog 4 (.bool (eq n35 0)) (.bool (le 0 n36)) fun q6 =>
            ifB (not q6) (
              out .ret [(.bool false), gv ws2 1] h33) (
              asI .i64 (gv ws2 1) fun n37 =>
              out .normal [gv ws2 0, (.int .i64 (add .i64 n37 1))] h33)) (
            none)))) (
      ld Try.prog h22 3 (nx h0) 0 fun v59 =>
      asI .i64 v59 fun n38 =>
      ld Try.prog h22 3 (nx h0) (off 0 1) fun v60 =>
      asI .i64 v60 fun n39 =>
      bld Try.prog 52 [(0, (.int .i64 n38)), (1, (.int .i64 n39))] fun v61 =>
      al h22 52 [(.int .i64 0), (.int .i64 0), (.slice none 0 0)] fun h34 =>
      st Try.prog h34 52 (nx h22) 0 v61 fun h35 =>
      ld Try.prog h35 47 (nx h0) 0 fun v62 =>
      calls rec h35 37 [v62] fun v63 h36 =>
      fld Try.prog 52 v63 2 fun v64 =>
      len v64 fun n40 =>
      lp k (f16_l4 rec k n2 ws2 h22 v64 n40) [(.int .i64 0)] h36 fun e2 _ h43 =>
      onE e2 4 (
        ld Try.prog h43 52 (nx h22) 0 fun v70 =>
        calls rec h43 47 [v70] fun v71 h44 =>
        ext v71 0 fun _ =>
        ext v71 1 fun v73 =>
        asI .i64 v73 fun n49 =>
        asI .i64 (gv ws2 1) fun n50 =>
        eqv Try.prog 4 (.bool (eq n49 0)) (.bool (le 0 n50)) fun q7 =>
        ifB (not q7) (
          out .ret [(.bool false), gv ws2 1] h44) (
          asI .i64 (gv ws2 1) fun n51 =>
          out .normal [gv ws2 0, (.int .i64 (add .i64 n51 1))] h44)) (
        none))) (
    out (.exit 2) [gv ws2 0, gv ws2 1] h22)

noncomputable def f16_l6 (_rec : Rec) (_k : Nat) (n2 : Int) (ws8 : List Value) (h50 : H) (v88 : Value) (n61 : Int) (ws9 : List Value) (h54 : H) : Option (Ex × List Value × H) :=
  asI .i64 (gv ws9 0) fun n62 =>
  ifB (lt n62 n61) (
    asK (gv ws9 0) fun n63 =>
    six v88 n63 4 fun b8 b9 =>
    ld Try.prog h54 67 b8 b9 fun v89 =>
    al h54 67 [(.int .i64 0), (.int .i64 0), (.int .i64 0), (.int .i64 0)] fun h55 =>
    st Try.prog h55 67 (nx h54) 0 v89 fun h56 =>
    asK (gv ws9 0) fun n64 =>
    nn n64 (
      ifB (eq (and .i64 (shr .i64 n2 n64) 1) 1) (
        asI .i64 (gv ws9 0) fun n65 =>
        asI .i64 (gv ws8 1) fun n66 =>
        ifB (not (eq n65 n66)) (
          ld Try.prog h56 50 (nx h50) (off 0 2) fun v90 =>
          ld Try.prog h56 67 (nx h54) 0 fun v91 =>
          bls Try.prog h56 50 1 [(0, v91)] fun v92 h57 =>
          app Try.prog h57 50 50 v90 v92 fun v93 h58 =>
          st Try.prog h58 50 (nx h50) (off 0 2) v93 fun h59 =>
          asI .i64 (gv ws9 0) fun n67 =>
          out .normal [(.int .i64 (add .i64 n67 1))] h59) (
          asI .i64 (gv ws9 0) fun n68 =>
          out .normal [(.int .i64 (add .i64 n68 1))] h56)) (
        asI .i64 (gv ws9 0) fun n69 =>
        out .normal [(.int .i64 (add .i64 n69 1))] h56))) (
    out (.exit 4) [gv ws9 0] h54)

noncomputable def f16_l7 (_rec : Rec) (_k : Nat) (n2 : Int) (ws8 : List Value) (h50 : H) (v103 : Value) (n75 : Int) (ws11 : List Value) (h65 : H) : Option (Ex × List Value × H) :=
  asI .i64 (gv ws11 0) fun n76 =>
  ifB (lt n76 n75) (
    asK (gv ws11 0) fun n77 =>
    six v103 n77 4 fun b10 b11 =>
    ld Try.prog h65 67 b10 b11 fun v104 =>
    al h65 67 [(.int .i64 0), (.int .i64 0), (.int .i64 0), (.int .i64 0)] fun h66 =>
    st Try.prog h66 67 (nx h65) 0 v104 fun h67 =>
    asK (gv ws11 0) fun n78 =>
    nn n78 (
      ifB (eq (and .i64 (shr .i64 n2 n78) 1) 1) (
        asI .i64 (gv ws11 0) fun n79 =>
        asI .i64 (gv ws8 1) fun n80 =>
        ifB (not (eq n79 n80)) (
          ld Try.prog h67 50 (nx h50) (off 0 2) fun v105 =>
          ld Try.prog h67 67 (nx h65) 0 fun v106 =>
          bls Try.prog h67 50 1 [(0, v106)] fun v107 h68 =>
          app Try.prog h68 50 50 v105 v107 fun v108 h69 =>
          st Try.prog h69 50 (nx h50) (off 0 2) v108 fun h70 =>
          asI .i64 (gv ws11 0) fun n81 =>
          out .normal [(.int .i64 (add .i64 n81 1))] h70) (
          asI .i64 (gv ws11 0) fun n82 =>
          out .normal [(.int .i64 (add .i64 n82 1))] h67)) (
        asI .i64 (gv ws11 0) fun n83 =>
        out .normal [(.int .i64 (add .i64 n83 1))] h67))) (
    out (.exit 4) [gv ws11 0] h65)

noncomputable def f16_l5 (rec : Rec) (k : Nat) (h0 : H) (n2 : Int) (ws8 : List Value) (h50 : H) : Option (Ex × List Value × H) :=
  ld Try.prog h50 45 (nx h0) (off 0 2) fun v82 =>
  len v82 fun n54 =>
  asI .i64 (gv ws8 1) fun n55 =>
  ifB (lt n55 n54) (
    asI .i64 (gv ws8 1) fun n56 =>
    ifB (le 0 n56) (
      asK (gv ws8 1) fun n57 =>
      nn n57 (
        ifB (eq (and .i64 (shr .i64 n2 n57) 1) 0) (
          asI .i64 (gv ws8 1) fun n58 =>
          out .normal [gv ws8 0, (.int .i64 (add .i64 n58 1))] h50) (
          ld Try.prog h50 3 (nx h0) 0 fun v83 =>
          asI .i64 v83 fun n59 =>
          ld Try.prog h50 3 (nx h0) (off 0 1) fun v84 =>
          asI .i64 v84 fun n60 =>
          bld Try.prog 52 [(0, (.int .i64 n59)), (1, (.int .i64 n60))] fun v85 =>
          al h50 52 [(.int .i64 0), (.int .i64 0), (.slice none 0 0)] fun h51 =>
          st Try.prog h51 52 (nx h50) 0 v85 fun h52 =>
          ld Try.prog h52 47 (nx h0) 0 fun v86 =>
          calls rec h52 37 [v86] fun v87 h53 =>
          fld Try.prog 52 v87 2 fun v88 =>
          len v88 fun n61 =>
          lp k (f16_l6 rec k n2 ws8 h50 v88 n61) [(.int .i64 0)] h53 fun e4 _ h60 =>
          onE e4 4 (
            ld Try.prog h60 52 (nx h50) 0 fun v94 =>
            calls rec h60 47 [v94] fun v95 h61 =>
            ext v95 0 fun _ =>
            ext v95 1 fun v97 =>
            asI .i64 v97 fun n70 =>
            asI .i64 (gv ws8 1) fun n71 =>
            eqv Try.prog 4 (.bool (eq n70 0)) (.bool (le 0 n71)) fun q11 =>
            ifB (not q11) (
              out .ret [(.bool false), gv ws8 1] h61) (
              asI .i64 (gv ws8 1) fun n72 =>
              out .normal [gv ws8 0, (.int .i64 (add .i64 n72 1))] h61)) (
            none)))) (
      ld Try.prog h50 3 (nx h0) 0 fun v98 =>
      asI .i64 v98 fun n73 =>
      ld Try.prog h50 3 (nx h0) (off 0 1) fun v99 =>
      asI .i64 v99 fun n74 =>
      bld Try.prog 52 [(0, (.int .i64 n73)), (1, (.int .i64 n74))] fun v100 =>
      al h50 52 [(.int .i64 0), (.int .i64 0), (.slice none 0 0)] fun h62 =>
      st Try.prog h62 52 (nx h50) 0 v100 fun h63 =>
      ld Try.prog h63 47 (nx h0) 0 fun v101 =>
      calls rec h63 37 [v101] fun v102 h64 =>
      fld Try.prog 52 v102 2 fun v103 =>
      len v103 fun n75 =>
      lp k (f16_l7 rec k n2 ws8 h50 v103 n75) [(.int .i64 0)] h64 fun e5 _ h71 =>
      onE e5 4 (
        ld Try.prog h71 52 (nx h50) 0 fun v109 =>
        calls rec h71 47 [v109] fun v110 h72 =>
        ext v110 0 fun _ =>
        ext v110 1 fun v112 =>
        asI .i64 v112 fun n84 =>
        asI .i64 (gv ws8 1) fun n85 =>
        eqv Try.prog 4 (.bool (eq n84 0)) (.bool (le 0 n85)) fun q12 =>
        ifB (not q12) (
          out .ret [(.bool false), gv ws8 1] h72) (
          asI .i64 (gv ws8 1) fun n86 =>
          out .normal [gv ws8 0, (.int .i64 (add .i64 n86 1))] h72)) (
        none))) (
    out (.exit 2) [gv ws8 0, gv ws8 1] h50)

noncomputable def f16_l9 (_rec : Rec) (_k : Nat) (n2 : Int) (ws14 : List Value) (h81 : H) (v134 : Value) (n99 : Int) (ws15 : List Value) (h85 : H) : Option (Ex × List Value × H) :=
  asI .i64 (gv ws15 0) fun n100 =>
  ifB (lt n100 n99) (
    asK (gv ws15 0) fun n101 =>
    six v134 n101 4 fun b12 b13 =>
    ld Try.prog h85 67 b12 b13 fun v135 =>
    al h85 67 [(.int .i64 0), (.int .i64 0), (.int .i64 0), (.int .i64 0)] fun h86 =>
    st Try.prog h86 67 (nx h85) 0 v135 fun h87 =>
    asK (gv ws15 0) fun n102 =>
    nn n102 (
      ifB (eq (and .i64 (shr .i64 n2 n102) 1) 1) (
        asI .i64 (gv ws15 0) fun n103 =>
        asI .i64 (gv ws14 1) fun n104 =>
        ifB (not (eq n103 n104)) (
          ld Try.prog h87 50 (nx h81) (off 0 2) fun v136 =>
          ld Try.prog h87 67 (nx h85) 0 fun v137 =>
          bls Try.prog h87 50 1 [(0, v137)] fun v138 h88 =>
          app Try.prog h88 50 50 v136 v138 fun v139 h89 =>
          st Try.prog h89 50 (nx h81) (off 0 2) v139 fun h90 =>
          asI .i64 (gv ws15 0) fun n105 =>
          out .normal [(.int .i64 (add .i64 n105 1))] h90) (
          asI .i64 (gv ws15 0) fun n106 =>
          out .normal [(.int .i64 (add .i64 n106 1))] h87)) (
        asI .i64 (gv ws15 0) fun n107 =>
        out .normal [(.int .i64 (add .i64 n107 1))] h87))) (
    out (.exit 4) [gv ws15 0] h85)

noncomputable def f16_l10 (_rec : Rec) (_k : Nat) (n2 : Int) (ws14 : List Value) (h81 : H) (v149 : Value) (n113 : Int) (ws17 : List Value) (h96 : H) : Option (Ex × List Value × H) :=
  asI .i64 (gv ws17 0) fun n114 =>
  ifB (lt n114 n113) (
    asK (gv ws17 0) fun n115 =>
    six v149 n115 4 fun b14 b15 =>
    ld Try.prog h96 67 b14 b15 fun v150 =>
    al h96 67 [(.int .i64 0), (.int .i64 0), (.int .i64 0), (.int .i64 0)] fun h97 =>
    st Try.prog h97 67 (nx h96) 0 v150 fun h98 =>
    asK (gv ws17 0) fun n116 =>
    nn n116 (
      ifB (eq (and .i64 (shr .i64 n2 n116) 1) 1) (
        asI .i64 (gv ws17 0) fun n117 =>
        asI .i64 (gv ws14 1) fun n118 =>
        ifB (not (eq n117 n118)) (
          ld Try.prog h98 50 (nx h81) (off 0 2) fun v151 =>
          ld Try.prog h98 67 (nx h96) 0 fun v152 =>
          bls Try.prog h98 50 1 [(0, v152)] fun v153 h99 =>
          app Try.prog h99 50 50 v151 v153 fun v154 h100 =>
          st Try.prog h100 50 (nx h81) (off 0 2) v154 fun h101 =>
          asI .i64 (gv ws17 0) fun n119 =>
          out .normal [(.int .i64 (add .i64 n119 1))] h101) (
          asI .i64 (gv ws17 0) fun n120 =>
          out .normal [(.int .i64 (add .i64 n120 1))] h98)) (
        asI .i64 (gv ws17 0) fun n121 =>
        out .normal [(.int .i64 (add .i64 n121 1))] h98))) (
    out (.exit 4) [gv ws17 0] h96)

noncomputable def f16_l8 (rec : Rec) (k : Nat) (h0 : H) (n2 : Int) (ws14 : List Value) (h81 : H) : Option (Ex × List Value × H) :=
  ld Try.prog h81 45 (nx h0) (off 0 2) fun v128 =>
  len v128 fun n92 =>
  asI .i64 (gv ws14 1) fun n93 =>
  ifB (lt n93 n92) (
    asI .i64 (gv ws14 1) fun n94 =>
    ifB (le 0 n94) (
      asK (gv ws14 1) fun n95 =>
      nn n95 (
        ifB (eq (and .i64 (shr .i64 n2 n95) 1) 0) (
          asI .i64 (gv ws14 1) fun n96 =>
          out .normal [gv ws14 0, (.int .i64 (add .i64 n96 1))] h81) (
          ld Try.prog h81 3 (nx h0) 0 fun v129 =>
          asI .i64 v129 fun n97 =>
          ld Try.prog h81 3 (nx h0) (off 0 1) fun v130 =>
          asI .i64 v130 fun n98 =>
          bld Try.prog 52 [(0, (.int .i64 n97)), (1, (.int .i64 n98))] fun v131 =>
          al h81 52 [(.int .i64 0), (.int .i64 0), (.slice none 0 0)] fun h82 =>
          st Try.prog h82 52 (nx h81) 0 v131 fun h83 =>
          ld Try.prog h83 47 (nx h0) 0 fun v132 =>
          calls rec h83 37 [v132] fun v133 h84 =>
          fld Try.prog 52 v133 2 fun v134 =>
          len v134 fun n99 =>
          lp k (f16_l9 rec k n2 ws14 h81 v134 n99) [(.int .i64 0)] h84 fun e7 _ h91 =>
          onE e7 4 (
            ld Try.prog h91 52 (nx h81) 0 fun v140 =>
            calls rec h91 47 [v140] fun v141 h92 =>
            ext v141 0 fun _ =>
            ext v141 1 fun v143 =>
            asI .i64 v143 fun n108 =>
            asI .i64 (gv ws14 1) fun n109 =>
            eqv Try.prog 4 (.bool (eq n108 0)) (.bool (le 0 n109)) fun q16 =>
            ifB (not q16) (
              out .ret [(.bool false), gv ws14 1] h92) (
              asI .i64 (gv ws14 1) fun n110 =>
              out .normal [gv ws14 0, (.int .i64 (add .i64 n110 1))] h92)) (
            none)))) (
      ld Try.prog h81 3 (nx h0) 0 fun v144 =>
      asI .i64 v144 fun n111 =>
      ld Try.prog h81 3 (nx h0) (off 0 1) fun v145 =>
      asI .i64 v145 fun n112 =>
      bld Try.prog 52 [(0, (.int .i64 n111)), (1, (.int .i64 n112))] fun v146 =>
      al h81 52 [(.int .i64 0), (.int .i64 0), (.slice none 0 0)] fun h93 =>
      st Try.prog h93 52 (nx h81) 0 v146 fun h94 =>
      ld Try.prog h94 47 (nx h0) 0 fun v147 =>
      calls rec h94 37 [v147] fun v148 h95 =>
      fld Try.prog 52 v148 2 fun v149 =>
      len v149 fun n113 =>
      lp k (f16_l10 rec k n2 ws14 h81 v149 n113) [(.int .i64 0)] h95 fun e8 _ h102 =>
      onE e8 4 (
        ld Try.prog h102 52 (nx h81) 0 fun v155 =>
        calls rec h102 47 [v155] fun v156 h103 =>
        ext v156 0 fun _ =>
        ext v156 1 fun v158 =>
        asI .i64 v158 fun n122 =>
        asI .i64 (gv ws14 1) fun n123 =>
        eqv Try.prog 4 (.bool (eq n122 0)) (.bool (le 0 n123)) fun q17 =>
        ifB (not q17) (
          out .ret [(.bool false), gv ws14 1] h103) (
          asI .i64 (gv ws14 1) fun n124 =>
          out .normal [gv ws14 0, (.int .i64 (add .i64 n124 1))] h103)) (
        none))) (
    out (.exit 2) [gv ws14 0, gv ws14 1] h81)

noncomputable def f16_l12 (_rec : Rec) (_k : Nat) (n2 : Int) (ws20 : List Value) (h109 : H) (v173 : Value) (n134 : Int) (ws21 : List Value) (h113 : H) : Option (Ex × List Value × H) :=
  asI .i64 (gv ws21 0) fun n135 =>
  ifB (lt n135 n134) (
    asK (gv ws21 0) fun n136 =>
    six v173 n136 4 fun b16 b17 =>
    ld Try.prog h113 67 b16 b17 fun v174 =>
    al h113 67 [(.int .i64 0), (.int .i64 0), (.int .i64 0), (.int .i64 0)] fun h114 =>
    st Try.prog h114 67 (nx h113) 0 v174 fun h115 =>
    asK (gv ws21 0) fun n137 =>
    nn n137 (
      ifB (eq (and .i64 (shr .i64 n2 n137) 1) 1) (
        asI .i64 (gv ws21 0) fun n138 =>
        asI .i64 (gv ws20 1) fun n139 =>
        ifB (not (eq n138 n139)) (
          ld Try.prog h115 50 (nx h109) (off 0 2) fun v175 =>
          ld Try.prog h115 67 (nx h113) 0 fun v176 =>
          bls Try.prog h115 50 1 [(0, v176)] fun v177 h116 =>
          app Try.prog h116 50 50 v175 v177 fun v178 h117 =>
          st Try.prog h117 50 (nx h109) (off 0 2) v178 fun h118 =>
          asI .i64 (gv ws21 0) fun n140 =>
          out .normal [(.int .i64 (add .i64 n140 1))] h118) (
          asI .i64 (gv ws21 0) fun n141 =>
          out .normal [(.int .i64 (add .i64 n141 1))] h115)) (
        asI .i64 (gv ws21 0) fun n142 =>
        out .normal [(.int .i64 (add .i64 n142 1))] h115))) (
    out (.exit 4) [gv ws21 0] h113)

noncomputable def f16_l13 (_rec : Rec) (_k : Nat) (n2 : Int) (ws20 : List Value) (h109 : H) (v188 : Value) (n148 : Int) (ws23 : List Value) (h124 : H) : Option (Ex × List Value × H) :=
  asI .i64 (gv ws23 0) fun n149 =>
  ifB (lt n149 n148) (
    asK (gv ws23 0) fun n150 =>
    six v188 n150 4 fun b18 b19 =>
    ld Try.prog h124 67 b18 b19 fun v189 =>
    al h124 67 [(.int .i64 0), (.int .i64 0), (.int .i64 0), (.int .i64 0)] fun h125 =>
    st Try.prog h125 67 (nx h124) 0 v189 fun h126 =>
    asK (gv ws23 0) fun n151 =>
    nn n151 (
      ifB (eq (and .i64 (shr .i64 n2 n151) 1) 1) (
        asI .i64 (gv ws23 0) fun n152 =>
        asI .i64 (gv ws20 1) fun n153 =>
        ifB (not (eq n152 n153)) (
          ld Try.prog h126 50 (nx h109) (off 0 2) fun v190 =>
          ld Try.prog h126 67 (nx h124) 0 fun v191 =>
          bls Try.prog h126 50 1 [(0, v191)] fun v192 h127 =>
          app Try.prog h127 50 50 v190 v192 fun v193 h128 =>
          st Try.prog h128 50 (nx h109) (off 0 2) v193 fun h129 =>
          asI .i64 (gv ws23 0) fun n154 =>
          out .normal [(.int .i64 (add .i64 n154 1))] h129) (
          asI .i64 (gv ws23 0) fun n155 =>
          out .normal [(.int .i64 (add .i64 n155 1))] h126)) (
        asI .i64 (gv ws23 0) fun n156 =>
        out .normal [(.int .i64 (add .i64 n156 1))] h126))) (
    out (.exit 4) [gv ws23 0] h124)

noncomputable def f16_l11 (rec : Rec) (k : Nat) (h0 : H) (n2 : Int) (ws20 : List Value) (h109 : H) : Option (Ex × List Value × H) :=
  ld Try.prog h109 45 (nx h0) (off 0 2) fun v167 =>
  len v167 fun n127 =>
  asI .i64 (gv ws20 1) fun n128 =>
  ifB (lt n128 n127) (
    asI .i64 (gv ws20 1) fun n129 =>
    ifB (le 0 n129) (
      asK (gv ws20 1) fun n130 =>
      nn n130 (
        ifB (eq (and .i64 (shr .i64 n2 n130) 1) 0) (
          asI .i64 (gv ws20 1) fun n131 =>
          out .normal [gv ws20 0, (.int .i64 (add .i64 n131 1))] h109) (
          ld Try.prog h109 3 (nx h0) 0 fun v168 =>
          asI .i64 v168 fun n132 =>
          ld Try.prog h109 3 (nx h0) (off 0 1) fun v169 =>
          asI .i64 v169 fun n133 =>
          bld Try.prog 52 [(0, (.int .i64 n132)), (1, (.int .i64 n133))] fun v170 =>
          al h109 52 [(.int .i64 0), (.int .i64 0), (.slice none 0 0)] fun h110 =>
          st Try.prog h110 52 (nx h109) 0 v170 fun h111 =>
          ld Try.prog h111 47 (nx h0) 0 fun v171 =>
          calls rec h111 37 [v171] fun v172 h112 =>
          fld Try.prog 52 v172 2 fun v173 =>
          len v173 fun n134 =>
          lp k (f16_l12 rec k n2 ws20 h109 v173 n134) [(.int .i64 0)] h112 fun e10 _ h119 =>
          onE e10 4 (
            ld Try.prog h119 52 (nx h109) 0 fun v179 =>
            calls rec h119 47 [v179] fun v180 h120 =>
            ext v180 0 fun _ =>
            ext v180 1 fun v182 =>
            asI .i64 v182 fun n143 =>
            asI .i64 (gv ws20 1) fun n144 =>
            eqv Try.prog 4 (.bool (eq n143 0)) (.bool (le 0 n144)) fun q21 =>
            ifB (not q21) (
              out .ret [(.bool false), gv ws20 1] h120) (
              asI .i64 (gv ws20 1) fun n145 =>
              out .normal [gv ws20 0, (.int .i64 (add .i64 n145 1))] h120)) (
            none)))) (
      ld Try.prog h109 3 (nx h0) 0 fun v183 =>
      asI .i64 v183 fun n146 =>
      ld Try.prog h109 3 (nx h0) (off 0 1) fun v184 =>
      asI .i64 v184 fun n147 =>
      bld Try.prog 52 [(0, (.int .i64 n146)), (1, (.int .i64 n147))] fun v185 =>
      al h109 52 [(.int .i64 0), (.int .i64 0), (.slice none 0 0)] fun h121 =>
      st Try.prog h121 52 (nx h109) 0 v185 fun h122 =>
      ld Try.prog h122 47 (nx h0) 0 fun v186 =>
      calls rec h122 37 [v186] fun v187 h123 =>
      fld Try.prog 52 v187 2 fun v188 =>
      len v188 fun n148 =>
      lp k (f16_l13 rec k n2 ws20 h109 v188 n148) [(.int .i64 0)] h123 fun e11 _ h130 =>
      onE e11 4 (
        ld Try.prog h130 52 (nx h109) 0 fun v194 =>
        calls rec h130 47 [v194] fun v195 h131 =>
        ext v195 0 fun _ =>
        ext v195 1 fun v197 =>
        asI .i64 v197 fun n157 =>
        asI .i64 (gv ws20 1) fun n158 =>
        eqv Try.prog 4 (.bool (eq n157 0)) (.bool (le 0 n158)) fun q22 =>
        ifB (not q22) (
          out .ret [(.bool false), gv ws20 1] h131) (
          asI .i64 (gv ws20 1) fun n159 =>
          out .normal [gv ws20 0, (.int .i64 (add .i64 n159 1))] h131)) (
        none))) (
    out (.exit 2) [gv ws20 0, gv ws20 1] h109)

noncomputable def f16_l14 (_rec : Rec) (_k : Nat) (n0 : Int) (h0 : H) (v199 : Value) (n160 : Int) (ws26 : List Value) (h135 : H) : Option (Ex × List Value × H) :=
  asI .i64 (gv ws26 0) fun n161 =>
  ifB (lt n161 n160) (
    asK (gv ws26 0) fun n162 =>
    six v199 n162 1 fun b20 b21 =>
    ld Try.prog h135 3 b20 b21 fun v200 =>
    asI .i64 v200 fun n163 =>
    ld Try.prog h135 3 (nx h0) 0 fun v201 =>
    asI .i64 v201 fun n164 =>
    nz (wr .u64 n164) (
      ld Try.prog h135 3 (nx h0) 0 fun v202 =>
      asI .i64 v202 fun n165 =>
      nz n165 (
        asK (gv ws26 0) fun n166 =>
        six v199 n166 1 fun b22 b23 =>
        st Try.prog h135 3 b22 b23 (.int .i64 (rem .i64 (add .i64 n163 (wr .i64 (rem .u64 (wr .u64 n0) (wr .u64 n164)))) n165)) fun h136 =>
        asI .i64 (gv ws26 0) fun n167 =>
        out .normal [(.int .i64 (add .i64 n167 1))] h136))) (
    out (.exit 0) [gv ws26 0] h135)

noncomputable def f16_l16 (_rec : Rec) (_k : Nat) (n2 : Int) (ws28 : List Value) (h146 : H) (v228 : Value) (n181 : Int) (ws29 : List Value) (h150 : H) : Option (Ex × List Value × H) :=
  asI .i64 (gv ws29 0) fun n182 =>
  ifB (lt n182 n181) (
    asK (gv ws29 0) fun n183 =>
    six v228 n183 4 fun b24 b25 =>
    ld Try.prog h150 67 b24 b25 fun v229 =>
    al h150 67 [(.int .i64 0), (.int .i64 0), (.int .i64 0), (.int .i64 0)] fun h151 =>
    st Try.prog h151 67 (nx h150) 0 v229 fun h152 =>
    asK (gv ws29 0) fun n184 =>
    nn n184 (
      ifB (eq (and .i64 (shr .i64 n2 n184) 1) 1) (
        asI .i64 (gv ws29 0) fun n185 =>
        asI .i64 (gv ws28 1) fun n186 =>
        ifB (not (eq n185 n186)) (
          ld Try.prog h152 50 (nx h146) (off 0 2) fun v230 =>
          ld Try.prog h152 67 (nx h150) 0 fun v231 =>
          bls Try.prog h152 50 1 [(0, v231)] fun v232 h153 =>
          app Try.prog h153 50 50 v230 v232 fun v233 h154 =>
          st Try.prog h154 50 (nx h146) (off 0 2) v233 fun h155 =>
          asI .i64 (gv ws29 0) fun n187 =>
          out .normal [(.int .i64 (add .i64 n187 1))] h155) (
          asI .i64 (gv ws29 0) fun n188 =>
          out .normal [(.int .i64 (add .i64 n188 1))] h152)) (
        asI .i64 (gv ws29 0) fun n189 =>
        out .normal [(.int .i64 (add .i64 n189 1))] h152))) (
    out (.exit 4) [gv ws29 0] h150)

noncomputable def f16_l17 (_rec : Rec) (_k : Nat) (n2 : Int) (ws28 : List Value) (h146 : H) (v243 : Value) (n195 : Int) (ws31 : List Value) (h161 : H) : Option (Ex × List Value × H) :=
  asI .i64 (gv ws31 0) fun n196 =>
  ifB (lt n196 n195) (
    asK (gv ws31 0) fun n197 =>
    six v243 n197 4 fun b26 b27 =>
    ld Try.prog h161 67 b26 b27 fun v244 =>
    al h161 67 [(.int .i64 0), (.int .i64 0), (.int .i64 0), (.int .i64 0)] fun h162 =>
    st Try.prog h162 67 (nx h161) 0 v244 fun h163 =>
    asK (gv ws31 0) fun n198 =>
    nn n198 (
      ifB (eq (and .i64 (shr .i64 n2 n198) 1) 1) (
        asI .i64 (gv ws31 0) fun n199 =>
        asI .i64 (gv ws28 1) fun n200 =>
        ifB (not (eq n199 n200)) (
          ld Try.prog h163 50 (nx h146) (off 0 2) fun v245 =>
          ld Try.prog h163 67 (nx h161) 0 fun v246 =>
          bls Try.prog h163 50 1 [(0, v246)] fun v247 h164 =>
          app Try.prog h164 50 50 v245 v247 fun v248 h165 =>
          st Try.prog h165 50 (nx h146) (off 0 2) v248 fun h166 =>
          asI .i64 (gv ws31 0) fun n201 =>
          out .normal [(.int .i64 (add .i64 n201 1))] h166) (
          asI .i64 (gv ws31 0) fun n202 =>
          out .normal [(.int .i64 (add .i64 n202 1))] h163)) (
        asI .i64 (gv ws31 0) fun n203 =>
        out .normal [(.int .i64 (add .i64 n203 1))] h163))) (
    out (.exit 4) [gv ws31 0] h161)

noncomputable def f16_l15 (rec : Rec) (k : Nat) (h0 : H) (n2 : Int) (ws28 : List Value) (h146 : H) : Option (Ex × List Value × H) :=
  ld Try.prog h146 45 (nx h0) (off 0 2) fun v222 =>
  len v222 fun n174 =>
  asI .i64 (gv ws28 1) fun n175 =>
  ifB (lt n175 n174) (
    asI .i64 (gv ws28 1) fun n176 =>
    ifB (le 0 n176) (
      asK (gv ws28 1) fun n177 =>
      nn n177 (
        ifB (eq (and .i64 (shr .i64 n2 n177) 1) 0) (
          asI .i64 (gv ws28 1) fun n178 =>
          out .normal [gv ws28 0, (.int .i64 (add .i64 n178 1))] h146) (
          ld Try.prog h146 3 (nx h0) 0 fun v223 =>
          asI .i64 v223 fun n179 =>
          ld Try.prog h146 3 (nx h0) (off 0 1) fun v224 =>
          asI .i64 v224 fun n180 =>
          bld Try.prog 52 [(0, (.int .i64 n179)), (1, (.int .i64 n180))] fun v225 =>
          al h146 52 [(.int .i64 0), (.int .i64 0), (.slice none 0 0)] fun h147 =>
          st Try.prog h147 52 (nx h146) 0 v225 fun h148 =>
          ld Try.prog h148 47 (nx h0) 0 fun v226 =>
          calls rec h148 37 [v226] fun v227 h149 =>
          fld Try.prog 52 v227 2 fun v228 =>
          len v228 fun n181 =>
          lp k (f16_l16 rec k n2 ws28 h146 v228 n181) [(.int .i64 0)] h149 fun e14 _ h156 =>
          onE e14 4 (
            ld Try.prog h156 52 (nx h146) 0 fun v234 =>
            calls rec h156 47 [v234] fun v235 h157 =>
            ext v235 0 fun _ =>
            ext v235 1 fun v237 =>
            asI .i64 v237 fun n190 =>
            asI .i64 (gv ws28 1) fun n191 =>
            eqv Try.prog 4 (.bool (eq n190 0)) (.bool (le 0 n191)) fun q27 =>
            ifB (not q27) (
              out .ret [(.bool false), gv ws28 1] h157) (
              asI .i64 (gv ws28 1) fun n192 =>
              out .normal [gv ws28 0, (.int .i64 (add .i64 n192 1))] h157)) (
            none)))) (
      ld Try.prog h146 3 (nx h0) 0 fun v238 =>
      asI .i64 v238 fun n193 =>
      ld Try.prog h146 3 (nx h0) (off 0 1) fun v239 =>
      asI .i64 v239 fun n194 =>
      bld Try.prog 52 [(0, (.int .i64 n193)), (1, (.int .i64 n194))] fun v240 =>
      al h146 52 [(.int .i64 0), (.int .i64 0), (.slice none 0 0)] fun h158 =>
      st Try.prog h158 52 (nx h146) 0 v240 fun h159 =>
      ld Try.prog h159 47 (nx h0) 0 fun v241 =>
      calls rec h159 37 [v241] fun v242 h160 =>
      fld Try.prog 52 v242 2 fun v243 =>
      len v243 fun n195 =>
      lp k (f16_l17 rec k n2 ws28 h146 v243 n195) [(.int .i64 0)] h160 fun e15 _ h167 =>
      onE e15 4 (
        ld Try.prog h167 52 (nx h146) 0 fun v249 =>
        calls rec h167 47 [v249] fun v250 h168 =>
        ext v250 0 fun _ =>
        ext v250 1 fun v252 =>
        asI .i64 v252 fun n204 =>
        asI .i64 (gv ws28 1) fun n205 =>
        eqv Try.prog 4 (.bool (eq n204 0)) (.bool (le 0 n205)) fun q28 =>
        ifB (not q28) (
          out .ret [(.bool false), gv ws28 1] h168) (
          asI .i64 (gv ws28 1) fun n206 =>
          out .normal [gv ws28 0, (.int .i64 (add .i64 n206 1))] h168)) (
        none))) (
    out (.exit 2) [gv ws28 0, gv ws28 1] h146)

noncomputable def f16_l19 (_rec : Rec) (_k : Nat) (n2 : Int) (ws34 : List Value) (h174 : H) (v267 : Value) (n216 : Int) (ws35 : List Value) (h178 : H) : Option (Ex × List Value × H) :=
  asI .i64 (gv ws35 0) fun n217 =>
  ifB (lt n217 n216) (
    asK (gv ws35 0) fun n218 =>
    six v267 n218 4 fun b28 b29 =>
    ld Try.prog h178 67 b28 b29 fun v268 =>
    al h178 67 [(.int .i64 0), (.int .i64 0), (.int .i64 0), (.int .i64 0)] fun h179 =>
    st Try.prog h179 67 (nx h178) 0 v268 fun h180 =>
    asK (gv ws35 0) fun n219 =>
    nn n219 (
      ifB (eq (and .i64 (shr .i64 n2 n219) 1) 1) (
        asI .i64 (gv ws35 0) fun n220 =>
        asI .i64 (gv ws34 1) fun n221 =>
        ifB (not (eq n220 n221)) (
          ld Try.prog h180 50 (nx h174) (off 0 2) fun v269 =>
          ld Try.prog h180 67 (nx h178) 0 fun v270 =>
          bls Try.prog h180 50 1 [(0, v270)] fun v271 h181 =>
          app Try.prog h181 50 50 v269 v271 fun v272 h182 =>
          st Try.prog h182 50 (nx h174) (off 0 2) v272 fun h183 =>
          asI .i64 (gv ws35 0) fun n222 =>
          out .normal [(.int .i64 (add .i64 n222 1))] h183) (
          asI .i64 (gv ws35 0) fun n223 =>
          out .normal [(.int .i64 (add .i64 n223 1))] h180)) (
        asI .i64 (gv ws35 0) fun n224 =>
        out .normal [(.int .i64 (add .i64 n224 1))] h180))) (
    out (.exit 4) [gv ws35 0] h178)

noncomputable def f16_l20 (_rec : Rec) (_k : Nat) (n2 : Int) (ws34 : List Value) (h174 : H) (v282 : Value) (n230 : Int) (ws37 : List Value) (h189 : H) : Option (Ex × List Value × H) :=
  asI .i64 (gv ws37 0) fun n231 =>
  ifB (lt n231 n230) (
    asK (gv ws37 0) fun n232 =>
    six v282 n232 4 fun b30 b31 =>
    ld Try.prog h189 67 b30 b31 fun v283 =>
    al h189 67 [(.int .i64 0), (.int .i64 0), (.int .i64 0), (.int .i64 0)] fun h190 =>
    st Try.prog h190 67 (nx h189) 0 v283 fun h191 =>
    asK (gv ws37 0) fun n233 =>
    nn n233 (
      ifB (eq (and .i64 (shr .i64 n2 n233) 1) 1) (
        asI .i64 (gv ws37 0) fun n234 =>
        asI .i64 (gv ws34 1) fun n235 =>
        ifB (not (eq n234 n235)) (
          ld Try.prog h191 50 (nx h174) (off 0 2) fun v284 =>
          ld Try.prog h191 67 (nx h189) 0 fun v285 =>
          bls Try.prog h191 50 1 [(0, v285)] fun v286 h192 =>
          app Try.prog h192 50 50 v284 v286 fun v287 h193 =>
          st Try.prog h193 50 (nx h174) (off 0 2) v287 fun h194 =>
          asI .i64 (gv ws37 0) fun n236 =>
          out .normal [(.int .i64 (add .i64 n236 1))] h194) (
          asI .i64 (gv ws37 0) fun n237 =>
          out .normal [(.int .i64 (add .i64 n237 1))] h191)) (
        asI .i64 (gv ws37 0) fun n238 =>
        out .normal [(.int .i64 (add .i64 n238 1))] h191))) (
    out (.exit 4) [gv ws37 0] h189)

noncomputable def f16_l18 (rec : Rec) (k : Nat) (h0 : H) (n2 : Int) (ws34 : List Value) (h174 : H) : Option (Ex × List Value × H) :=
  ld Try.prog h174 45 (nx h0) (off 0 2) fun v261 =>
  len v261 fun n209 =>
  asI .i64 (gv ws34 1) fun n210 =>
  ifB (lt n210 n209) (
    asI .i64 (gv ws34 1) fun n211 =>
    ifB (le 0 n211) (
      asK (gv ws34 1) fun n212 =>
      nn n212 (
        ifB (eq (and .i64 (shr .i64 n2 n212) 1) 0) (
          asI .i64 (gv ws34 1) fun n213 =>
          out .normal [gv ws34 0, (.int .i64 (add .i64 n213 1))] h174) (
          ld Try.prog h174 3 (nx h0) 0 fun v262 =>
          asI .i64 v262 fun n214 =>
          ld Try.prog h174 3 (nx h0) (off 0 1) fun v263 =>
          asI .i64 v263 fun n215 =>
          bld Try.prog 52 [(0, (.int .i64 n214)), (1, (.int .i64 n215))] fun v264 =>
          al h174 52 [(.int .i64 0), (.int .i64 0), (.slice none 0 0)] fun h175 =>
          st Try.prog h175 52 (nx h174) 0 v264 fun h176 =>
          ld Try.prog h176 47 (nx h0) 0 fun v265 =>
          calls rec h176 37 [v265] fun v266 h177 =>
          fld Try.prog 52 v266 2 fun v267 =>
          len v267 fun n216 =>
          lp k (f16_l19 rec k n2 ws34 h174 v267 n216) [(.int .i64 0)] h177 fun e17 _ h184 =>
          onE e17 4 (
            ld Try.prog h184 52 (nx h174) 0 fun v273 =>
            calls rec h184 47 [v273] fun v274 h185 =>
            ext v274 0 fun _ =>
            ext v274 1 fun v276 =>
            asI .i64 v276 fun n225 =>
            asI .i64 (gv ws34 1) fun n226 =>
            eqv Try.prog 4 (.bool (eq n225 0)) (.bool (le 0 n226)) fun q32 =>
            ifB (not q32) (
              out .ret [(.bool false), gv ws34 1] h185) (
              asI .i64 (gv ws34 1) fun n227 =>
              out .normal [gv ws34 0, (.int .i64 (add .i64 n227 1))] h185)) (
            none)))) (
      ld Try.prog h174 3 (nx h0) 0 fun v277 =>
      asI .i64 v277 fun n228 =>
      ld Try.prog h174 3 (nx h0) (off 0 1) fun v278 =>
      asI .i64 v278 fun n229 =>
      bld Try.prog 52 [(0, (.int .i64 n228)), (1, (.int .i64 n229))] fun v279 =>
      al h174 52 [(.int .i64 0), (.int .i64 0), (.slice none 0 0)] fun h186 =>
      st Try.prog h186 52 (nx h174) 0 v279 fun h187 =>
      ld Try.prog h187 47 (nx h0) 0 fun v280 =>
      calls rec h187 37 [v280] fun v281 h188 =>
      fld Try.prog 52 v281 2 fun v282 =>
      len v282 fun n230 =>
      lp k (f16_l20 rec k n2 ws34 h174 v282 n230) [(.int .i64 0)] h188 fun e18 _ h195 =>
      onE e18 4 (
        ld Try.prog h195 52 (nx h174) 0 fun v288 =>
        calls rec h195 47 [v288] fun v289 h196 =>
        ext v289 0 fun _ =>
        ext v289 1 fun v291 =>
        asI .i64 v291 fun n239 =>
        asI .i64 (gv ws34 1) fun n240 =>
        eqv Try.prog 4 (.bool (eq n239 0)) (.bool (le 0 n240)) fun q33 =>
        ifB (not q33) (
          out .ret [(.bool false), gv ws34 1] h196) (
          asI .i64 (gv ws34 1) fun n241 =>
          out .normal [gv ws34 0, (.int .i64 (add .i64 n241 1))] h196)) (
        none))) (
    out (.exit 2) [gv ws34 0, gv ws34 1] h174)

noncomputable def f16_l22 (_rec : Rec) (_k : Nat) (n2 : Int) (ws40 : List Value) (h205 : H) (v313 : Value) (n254 : Int) (ws41 : List Value) (h209 : H) : Option (Ex × List Value × H) :=
  asI .i64 (gv ws41 0) fun n255 =>
  ifB (lt n255 n254) (
    asK (gv ws41 0) fun n256 =>
    six v313 n256 4 fun b32 b33 =>
    ld Try.prog h209 67 b32 b33 fun v314 =>
    al h209 67 [(.int .i64 0), (.int .i64 0), (.int .i64 0), (.int .i64 0)] fun h210 =>
    st Try.prog h210 67 (nx h209) 0 v314 fun h211 =>
    asK (gv ws41 0) fun n257 =>
    nn n257 (
      ifB (eq (and .i64 (shr .i64 n2 n257) 1) 1) (
        asI .i64 (gv ws41 0) fun n258 =>
        asI .i64 (gv ws40 1) fun n259 =>
        ifB (not (eq n258 n259)) (
          ld Try.prog h211 50 (nx h205) (off 0 2) fun v315 =>
          ld Try.prog h211 67 (nx h209) 0 fun v316 =>
          bls Try.prog h211 50 1 [(0, v316)] fun v317 h212 =>
          app Try.prog h212 50 50 v315 v317 fun v318 h213 =>
          st Try.prog h213 50 (nx h205) (off 0 2) v318 fun h214 =>
          asI .i64 (gv ws41 0) fun n260 =>
          out .normal [(.int .i64 (add .i64 n260 1))] h214) (
          asI .i64 (gv ws41 0) fun n261 =>
          out .normal [(.int .i64 (add .i64 n261 1))] h211)) (
        asI .i64 (gv ws41 0) fun n262 =>
        out .normal [(.int .i64 (add .i64 n262 1))] h211))) (
    out (.exit 4) [gv ws41 0] h209)

noncomputable def f16_l23 (_rec : Rec) (_k : Nat) (n2 : Int) (ws40 : List Value) (h205 : H) (v328 : Value) (n268 : Int) (ws43 : List Value) (h220 : H) : Option (Ex × List Value × H) :=
  asI .i64 (gv ws43 0) fun n269 =>
  ifB (lt n269 n268) (
    asK (gv ws43 0) fun n270 =>
    six v328 n270 4 fun b34 b35 =>
    ld Try.prog h220 67 b34 b35 fun v329 =>
    al h220 67 [(.int .i64 0), (.int .i64 0), (.int .i64 0), (.int .i64 0)] fun h221 =>
    st Try.prog h221 67 (nx h220) 0 v329 fun h222 =>
    asK (gv ws43 0) fun n271 =>
    nn n271 (
      ifB (eq (and .i64 (shr .i64 n2 n271) 1) 1) (
        asI .i64 (gv ws43 0) fun n272 =>
        asI .i64 (gv ws40 1) fun n273 =>
        ifB (not (eq n272 n273)) (
          ld Try.prog h222 50 (nx h205) (off 0 2) fun v330 =>
          ld Try.prog h222 67 (nx h220) 0 fun v331 =>
          bls Try.prog h222 50 1 [(0, v331)] fun v332 h223 =>
          app Try.prog h223 50 50 v330 v332 fun v333 h224 =>
          st Try.prog h224 50 (nx h205) (off 0 2) v333 fun h225 =>
          asI .i64 (gv ws43 0) fun n274 =>
          out .normal [(.int .i64 (add .i64 n274 1))] h225) (
          asI .i64 (gv ws43 0) fun n275 =>
          out .normal [(.int .i64 (add .i64 n275 1))] h222)) (
        asI .i64 (gv ws43 0) fun n276 =>
        out .normal [(.int .i64 (add .i64 n276 1))] h222))) (
    out (.exit 4) [gv ws43 0] h220)

noncomputable def f16_l21 (rec : Rec) (k : Nat) (h0 : H) (n2 : Int) (ws40 : List Value) (h205 : H) : Option (Ex × List Value × H) :=
  ld Try.prog h205 45 (nx h0) (off 0 2) fun v307 =>
  len v307 fun n247 =>
  asI .i64 (gv ws40 1) fun n248 =>
  ifB (lt n248 n247) (
    asI .i64 (gv ws40 1) fun n249 =>
    ifB (le 0 n249) (
      asK (gv ws40 1) fun n250 =>
      nn n250 (
        ifB (eq (and .i64 (shr .i64 n2 n250) 1) 0) (
          asI .i64 (gv ws40 1) fun n251 =>
          out .normal [gv ws40 0, (.int .i64 (add .i64 n251 1))] h205) (
          ld Try.prog h205 3 (nx h0) 0 fun v308 =>
          asI .i64 v308 fun n252 =>
          ld Try.prog h205 3 (nx h0) (off 0 1) fun v309 =>
          asI .i64 v309 fun n253 =>
          bld Try.prog 52 [(0, (.int .i64 n252)), (1, (.int .i64 n253))] fun v310 =>
          al h205 52 [(.int .i64 0), (.int .i64 0), (.slice none 0 0)] fun h206 =>
          st Try.prog h206 52 (nx h205) 0 v310 fun h207 =>
          ld Try.prog h207 47 (nx h0) 0 fun v311 =>
          calls rec h207 37 [v311] fun v312 h208 =>
          fld Try.prog 52 v312 2 fun v313 =>
          len v313 fun n254 =>
          lp k (f16_l22 rec k n2 ws40 h205 v313 n254) [(.int .i64 0)] h208 fun e20 _ h215 =>
          onE e20 4 (
            ld Try.prog h215 52 (nx h205) 0 fun v319 =>
            calls rec h215 47 [v319] fun v320 h216 =>
            ext v320 0 fun _ =>
            ext v320 1 fun v322 =>
            asI .i64 v322 fun n263 =>
            asI .i64 (gv ws40 1) fun n264 =>
            eqv Try.prog 4 (.bool (eq n263 0)) (.bool (le 0 n264)) fun q37 =>
            ifB (not q37) (
              out .ret [(.bool false), gv ws40 1] h216) (
              asI .i64 (gv ws40 1) fun n265 =>
              out .normal [gv ws40 0, (.int .i64 (add .i64 n265 1))] h216)) (
            none)))) (
      ld Try.prog h205 3 (nx h0) 0 fun v323 =>
      asI .i64 v323 fun n266 =>
      ld Try.prog h205 3 (nx h0) (off 0 1) fun v324 =>
      asI .i64 v324 fun n267 =>
      bld Try.prog 52 [(0, (.int .i64 n266)), (1, (.int .i64 n267))] fun v325 =>
      al h205 52 [(.int .i64 0), (.int .i64 0), (.slice none 0 0)] fun h217 =>
      st Try.prog h217 52 (nx h205) 0 v325 fun h218 =>
      ld Try.prog h218 47 (nx h0) 0 fun v326 =>
      calls rec h218 37 [v326] fun v327 h219 =>
      fld Try.prog 52 v327 2 fun v328 =>
      len v328 fun n268 =>
      lp k (f16_l23 rec k n2 ws40 h205 v328 n268) [(.int .i64 0)] h219 fun e21 _ h226 =>
      onE e21 4 (
        ld Try.prog h226 52 (nx h205) 0 fun v334 =>
        calls rec h226 47 [v334] fun v335 h227 =>
        ext v335 0 fun _ =>
        ext v335 1 fun v337 =>
        asI .i64 v337 fun n277 =>
        asI .i64 (gv ws40 1) fun n278 =>
        eqv Try.prog 4 (.bool (eq n277 0)) (.bool (le 0 n278)) fun q38 =>
        ifB (not q38) (
          out .ret [(.bool false), gv ws40 1] h227) (
          asI .i64 (gv ws40 1) fun n279 =>
          out .normal [gv ws40 0, (.int .i64 (add .i64 n279 1))] h227)) (
        none))) (
    out (.exit 2) [gv ws40 0, gv ws40 1] h205)

noncomputable def f16_l25 (_rec : Rec) (_k : Nat) (n2 : Int) (ws46 : List Value) (h233 : H) (v352 : Value) (n289 : Int) (ws47 : List Value) (h237 : H) : Option (Ex × List Value × H) :=
  asI .i64 (gv ws47 0) fun n290 =>
  ifB (lt n290 n289) (
    asK (gv ws47 0) fun n291 =>
    six v352 n291 4 fun b36 b37 =>
    ld Try.prog h237 67 b36 b37 fun v353 =>
    al h237 67 [(.int .i64 0), (.int .i64 0), (.int .i64 0), (.int .i64 0)] fun h238 =>
    st Try.prog h238 67 (nx h237) 0 v353 fun h239 =>
    asK (gv ws47 0) fun n292 =>
    nn n292 (
      ifB (eq (and .i64 (shr .i64 n2 n292) 1) 1) (
        asI .i64 (gv ws47 0) fun n293 =>
        asI .i64 (gv ws46 1) fun n294 =>
        ifB (not (eq n293 n294)) (
          ld Try.prog h239 50 (nx h233) (off 0 2) fun v354 =>
          ld Try.prog h239 67 (nx h237) 0 fun v355 =>
          bls Try.prog h239 50 1 [(0, v355)] fun v356 h240 =>
          app Try.prog h240 50 50 v354 v356 fun v357 h241 =>
          st Try.prog h241 50 (nx h233) (off 0 2) v357 fun h242 =>
          asI .i64 (gv ws47 0) fun n295 =>
          out .normal [(.int .i64 (add .i64 n295 1))] h242) (
          asI .i64 (gv ws47 0) fun n296 =>
          out .normal [(.int .i64 (add .i64 n296 1))] h239)) (
        asI .i64 (gv ws47 0) fun n297 =>
        out .normal [(.int .i64 (add .i64 n297 1))] h239))) (
    out (.exit 4) [gv ws47 0] h237)

noncomputable def f16_l26 (_rec : Rec) (_k : Nat) (n2 : Int) (ws46 : List Value) (h233 : H) (v367 : Value) (n303 : Int) (ws49 : List Value) (h248 : H) : Option (Ex × List Value × H) :=
  asI .i64 (gv ws49 0) fun n304 =>
  ifB (lt n304 n303) (
    asK (gv ws49 0) fun n305 =>
    six v367 n305 4 fun b38 b39 =>
    ld Try.prog h248 67 b38 b39 fun v368 =>
    al h248 67 [(.int .i64 0), (.int .i64 0), (.int .i64 0), (.int .i64 0)] fun h249 =>
    st Try.prog h249 67 (nx h248) 0 v368 fun h250 =>
    asK (gv ws49 0) fun n306 =>
    nn n306 (
      ifB (eq (and .i64 (shr .i64 n2 n306) 1) 1) (
        asI .i64 (gv ws49 0) fun n307 =>
        asI .i64 (gv ws46 1) fun n308 =>
        ifB (not (eq n307 n308)) (
          ld Try.prog h250 50 (nx h233) (off 0 2) fun v369 =>
          ld Try.prog h250 67 (nx h248) 0 fun v370 =>
          bls Try.prog h250 50 1 [(0, v370)] fun v371 h251 =>
          app Try.prog h251 50 50 v369 v371 fun v372 h252 =>
          st Try.prog h252 50 (nx h233) (off 0 2) v372 fun h253 =>
          asI .i64 (gv ws49 0) fun n309 =>
          out .normal [(.int .i64 (add .i64 n309 1))] h253) (
          asI .i64 (gv ws49 0) fun n310 =>
          out .normal [(.int .i64 (add .i64 n310 1))] h250)) (
        asI .i64 (gv ws49 0) fun n311 =>
        out .normal [(.int .i64 (add .i64 n311 1))] h250))) (
    out (.exit 4) [gv ws49 0] h248)

noncomputable def f16_l24 (rec : Rec) (k : Nat) (h0 : H) (n2 : Int) (ws46 : List Value) (h233 : H) : Option (Ex × List Value × H) :=
  ld Try.prog h233 45 (nx h0) (off 0 2) fun v346 =>
  len v346 fun n282 =>
  asI .i64 (gv ws46 1) fun n283 =>
  ifB (lt n283 n282) (
    asI .i64 (gv ws46 1) fun n284 =>
    ifB (le 0 n284) (
      asK (gv ws46 1) fun n285 =>
      nn n285 (
        ifB (eq (and .i64 (shr .i64 n2 n285) 1) 0) (
          asI .i64 (gv ws46 1) fun n286 =>
          out .normal [gv ws46 0, (.int .i64 (add .i64 n286 1))] h233) (
          ld Try.prog h233 3 (nx h0) 0 fun v347 =>
          asI .i64 v347 fun n287 =>
          ld Try.prog h233 3 (nx h0) (off 0 1) fun v348 =>
          asI .i64 v348 fun n288 =>
          bld Try.prog 52 [(0, (.int .i64 n287)), (1, (.int .i64 n288))] fun v349 =>
          al h233 52 [(.int .i64 0), (.int .i64 0), (.slice none 0 0)] fun h234 =>
          st Try.prog h234 52 (nx h233) 0 v349 fun h235 =>
          ld Try.prog h235 47 (nx h0) 0 fun v350 =>
          calls rec h235 37 [v350] fun v351 h236 =>
          fld Try.prog 52 v351 2 fun v352 =>
          len v352 fun n289 =>
          lp k (f16_l25 rec k n2 ws46 h233 v352 n289) [(.int .i64 0)] h236 fun e23 _ h243 =>
          onE e23 4 (
            ld Try.prog h243 52 (nx h233) 0 fun v358 =>
            calls rec h243 47 [v358] fun v359 h244 =>
            ext v359 0 fun _ =>
            ext v359 1 fun v361 =>
            asI .i64 v361 fun n298 =>
            asI .i64 (gv ws46 1) fun n299 =>
            eqv Try.prog 4 (.bool (eq n298 0)) (.bool (le 0 n299)) fun q42 =>
            ifB (not q42) (
              out .ret [(.bool false), gv ws46 1] h244) (
              asI .i64 (gv ws46 1) fun n300 =>
              out .normal [gv ws46 0, (.int .i64 (add .i64 n300 1))] h244)) (
            none)))) (
      ld Try.prog h233 3 (nx h0) 0 fun v362 =>
      asI .i64 v362 fun n301 =>
      ld Try.prog h233 3 (nx h0) (off 0 1) fun v363 =>
      asI .i64 v363 fun n302 =>
      bld Try.prog 52 [(0, (.int .i64 n301)), (1, (.int .i64 n302))] fun v364 =>
      al h233 52 [(.int .i64 0), (.int .i64 0), (.slice none 0 0)] fun h245 =>
      st Try.prog h245 52 (nx h233) 0 v364 fun h246 =>
      ld Try.prog h246 47 (nx h0) 0 fun v365 =>
      calls rec h246 37 [v365] fun v366 h247 =>
      fld Try.prog 52 v366 2 fun v367 =>
      len v367 fun n303 =>
      lp k (f16_l26 rec k n2 ws46 h233 v367 n303) [(.int .i64 0)] h247 fun e24 _ h254 =>
      onE e24 4 (
        ld Try.prog h254 52 (nx h233) 0 fun v373 =>
        calls rec h254 47 [v373] fun v374 h255 =>
        ext v374 0 fun _ =>
        ext v374 1 fun v376 =>
        asI .i64 v376 fun n312 =>
        asI .i64 (gv ws46 1) fun n313 =>
        eqv Try.prog 4 (.bool (eq n312 0)) (.bool (le 0 n313)) fun q43 =>
        ifB (not q43) (
          out .ret [(.bool false), gv ws46 1] h255) (
          asI .i64 (gv ws46 1) fun n314 =>
          out .normal [gv ws46 0, (.int .i64 (add .i64 n314 1))] h255)) (
        none))) (
    out (.exit 2) [gv ws46 0, gv ws46 1] h233)

noncomputable def f16_l27 (_rec : Rec) (_k : Nat) (n0 : Int) (h0 : H) (v378 : Value) (n315 : Int) (ws52 : List Value) (h259 : H) : Option (Ex × List Value × H) :=
  asI .i64 (gv ws52 0) fun n316 =>
  ifB (lt n316 n315) (
    asK (gv ws52 0) fun n317 =>
    six v378 n317 1 fun b40 b41 =>
    ld Try.prog h259 3 b40 b41 fun v379 =>
    asI .i64 v379 fun n318 =>
    ld Try.prog h259 3 (nx h0) 0 fun v380 =>
    asI .i64 v380 fun n319 =>
    nz (wr .u64 n319) (
      ld Try.prog h259 3 (nx h0) 0 fun v381 =>
      asI .i64 v381 fun n320 =>
      nz n320 (
        asK (gv ws52 0) fun n321 =>
        six v378 n321 1 fun b42 b43 =>
        st Try.prog h259 3 b42 b43 (.int .i64 (rem .i64 (add .i64 n318 (wr .i64 (rem .u64 (wr .u64 n0) (wr .u64 n319)))) n320)) fun h260 =>
        asI .i64 (gv ws52 0) fun n322 =>
        out .normal [(.int .i64 (add .i64 n322 1))] h260))) (
    out (.exit 0) [gv ws52 0] h259)

noncomputable def f16_l29 (_rec : Rec) (_k : Nat) (n2 : Int) (ws54 : List Value) (h270 : H) (v407 : Value) (n336 : Int) (ws55 : List Value) (h274 : H) : Option (Ex × List Value × H) :=
  asI .i64 (gv ws55 0) fun n337 =>
  ifB (lt n337 n336) (
    asK (gv ws55 0) fun n338 =>
    six v407 n338 4 fun b44 b45 =>
    ld Try.prog h274 67 b44 b45 fun v408 =>
    al h274 67 [(.int .i64 0), (.int .i64 0), (.int .i64 0), (.int .i64 0)] fun h275 =>
    st Try.prog h275 67 (nx h274) 0 v408 fun h276 =>
    asK (gv ws55 0) fun n339 =>
    nn n339 (
      ifB (eq (and .i64 (shr .i64 n2 n339) 1) 1) (
        asI .i64 (gv ws55 0) fun n340 =>
        asI .i64 (gv ws54 1) fun n341 =>
        ifB (not (eq n340 n341)) (
          ld Try.prog h276 50 (nx h270) (off 0 2) fun v409 =>
          ld Try.prog h276 67 (nx h274) 0 fun v410 =>
          bls Try.prog h276 50 1 [(0, v410)] fun v411 h277 =>
          app Try.prog h277 50 50 v409 v411 fun v412 h278 =>
          st Try.prog h278 50 (nx h270) (off 0 2) v412 fun h279 =>
          asI .i64 (gv ws55 0) fun n342 =>
          out .normal [(.int .i64 (add .i64 n342 1))] h279) (
          asI .i64 (gv ws55 0) fun n343 =>
          out .normal [(.int .i64 (add .i64 n343 1))] h276)) (
        asI .i64 (gv ws55 0) fun n344 =>
        out .normal [(.int .i64 (add .i64 n344 1))] h276))) (
    out (.exit 4) [gv ws55 0] h274)

noncomputable def f16_l30 (_rec : Rec) (_k : Nat) (n2 : Int) (ws54 : List Value) (h270 : H) (v422 : Value) (n350 : Int) (ws57 : List Value) (h285 : H) : Option (Ex × List Value × H) :=
  asI .i64 (gv ws57 0) fun n351 =>
  ifB (lt n351 n350) (
    asK (gv ws57 0) fun n352 =>
    six v422 n352 4 fun b46 b47 =>
    ld Try.prog h285 67 b46 b47 fun v423 =>
    al h285 67 [(.int .i64 0), (.int .i64 0), (.int .i64 0), (.int .i64 0)] fun h286 =>
    st Try.prog h286 67 (nx h285) 0 v423 fun h287 =>
    asK (gv ws57 0) fun n353 =>
    nn n353 (
      ifB (eq (and .i64 (shr .i64 n2 n353) 1) 1) (
        asI .i64 (gv ws57 0) fun n354 =>
        asI .i64 (gv ws54 1) fun n355 =>
        ifB (not (eq n354 n355)) (
          ld Try.prog h287 50 (nx h270) (off 0 2) fun v424 =>
          ld Try.prog h287 67 (nx h285) 0 fun v425 =>
          bls Try.prog h287 50 1 [(0, v425)] fun v426 h288 =>
          app Try.prog h288 50 50 v424 v426 fun v427 h289 =>
          st Try.prog h289 50 (nx h270) (off 0 2) v427 fun h290 =>
          asI .i64 (gv ws57 0) fun n356 =>
          out .normal [(.int .i64 (add .i64 n356 1))] h290) (
          asI .i64 (gv ws57 0) fun n357 =>
          out .normal [(.int .i64 (add .i64 n357 1))] h287)) (
        asI .i64 (gv ws57 0) fun n358 =>
        out .normal [(.int .i64 (add .i64 n358 1))] h287))) (
    out (.exit 4) [gv ws57 0] h285)

noncomputable def f16_l28 (rec : Rec) (k : Nat) (h0 : H) (n2 : Int) (ws54 : List Value) (h270 : H) : Option (Ex × List Value × H) :=
  ld Try.prog h270 45 (nx h0) (off 0 2) fun v401 =>
  len v401 fun n329 =>
  asI .i64 (gv ws54 1) fun n330 =>
  ifB (lt n330 n329) (
    asI .i64 (gv ws54 1) fun n331 =>
    ifB (le 0 n331) (
      asK (gv ws54 1) fun n332 =>
      nn n332 (
        ifB (eq (and .i64 (shr .i64 n2 n332) 1) 0) (
          asI .i64 (gv ws54 1) fun n333 =>
          out .normal [gv ws54 0, (.int .i64 (add .i64 n333 1))] h270) (
          ld Try.prog h270 3 (nx h0) 0 fun v402 =>
          asI .i64 v402 fun n334 =>
          ld Try.prog h270 3 (nx h0) (off 0 1) fun v403 =>
          asI .i64 v403 fun n335 =>
          bld Try.prog 52 [(0, (.int .i64 n334)), (1, (.int .i64 n335))] fun v404 =>
          al h270 52 [(.int .i64 0), (.int .i64 0), (.slice none 0 0)] fun h271 =>
          st Try.prog h271 52 (nx h270) 0 v404 fun h272 =>
          ld Try.prog h272 47 (nx h0) 0 fun v405 =>
          calls rec h272 37 [v405] fun v406 h273 =>
          fld Try.prog 52 v406 2 fun v407 =>
          len v407 fun n336 =>
          lp k (f16_l29 rec k n2 ws54 h270 v407 n336) [(.int .i64 0)] h273 fun e27 _ h280 =>
          onE e27 4 (
            ld Try.prog h280 52 (nx h270) 0 fun v413 =>
            calls rec h280 47 [v413] fun v414 h281 =>
            ext v414 0 fun _ =>
            ext v414 1 fun v416 =>
            asI .i64 v416 fun n345 =>
            asI .i64 (gv ws54 1) fun n346 =>
            eqv Try.prog 4 (.bool (eq n345 0)) (.bool (le 0 n346)) fun q48 =>
            ifB (not q48) (
              out .ret [(.bool false), gv ws54 1] h281) (
              asI .i64 (gv ws54 1) fun n347 =>
              out .normal [gv ws54 0, (.int .i64 (add .i64 n347 1))] h281)) (
            none)))) (
      ld Try.prog h270 3 (nx h0) 0 fun v417 =>
      asI .i64 v417 fun n348 =>
      ld Try.prog h270 3 (nx h0) (off 0 1) fun v418 =>
      asI .i64 v418 fun n349 =>
      bld Try.prog 52 [(0, (.int .i64 n348)), (1, (.int .i64 n349))] fun v419 =>
      al h270 52 [(.int .i64 0), (.int .i64 0), (.slice none 0 0)] fun h282 =>
      st Try.prog h282 52 (nx h270) 0 v419 fun h283 =>
      ld Try.prog h283 47 (nx h0) 0 fun v420 =>
      calls rec h283 37 [v420] fun v421 h284 =>
      fld Try.prog 52 v421 2 fun v422 =>
      len v422 fun n350 =>
      lp k (f16_l30 rec k n2 ws54 h270 v422 n350) [(.int .i64 0)] h284 fun e28 _ h291 =>
      onE e28 4 (
        ld Try.prog h291 52 (nx h270) 0 fun v428 =>
        calls rec h291 47 [v428] fun v429 h292 =>
        ext v429 0 fun _ =>
        ext v429 1 fun v431 =>
        asI .i64 v431 fun n359 =>
        asI .i64 (gv ws54 1) fun n360 =>
        eqv Try.prog 4 (.bool (eq n359 0)) (.bool (le 0 n360)) fun q49 =>
        ifB (not q49) (
          out .ret [(.bool false), gv ws54 1] h292) (
          asI .i64 (gv ws54 1) fun n361 =>
          out .normal [gv ws54 0, (.int .i64 (add .i64 n361 1))] h292)) (
        none))) (
    out (.exit 2) [gv ws54 0, gv ws54 1] h270)

noncomputable def f16_l32 (_rec : Rec) (_k : Nat) (n2 : Int) (ws60 : List Value) (h298 : H) (v446 : Value) (n371 : Int) (ws61 : List Value) (h302 : H) : Option (Ex × List Value × H) :=
  asI .i64 (gv ws61 0) fun n372 =>
  ifB (lt n372 n371) (
    asK (gv ws61 0) fun n373 =>
    six v446 n373 4 fun b48 b49 =>
    ld Try.prog h302 67 b48 b49 fun v447 =>
    al h302 67 [(.int .i64 0), (.int .i64 0), (.int .i64 0), (.int .i64 0)] fun h303 =>
    st Try.prog h303 67 (nx h302) 0 v447 fun h304 =>
    asK (gv ws61 0) fun n374 =>
    nn n374 (
      ifB (eq (and .i64 (shr .i64 n2 n374) 1) 1) (
        asI .i64 (gv ws61 0) fun n375 =>
        asI .i64 (gv ws60 1) fun n376 =>
        ifB (not (eq n375 n376)) (
          ld Try.prog h304 50 (nx h298) (off 0 2) fun v448 =>
          ld Try.prog h304 67 (nx h302) 0 fun v449 =>
          bls Try.prog h304 50 1 [(0, v449)] fun v450 h305 =>
          app Try.prog h305 50 50 v448 v450 fun v451 h306 =>
          st Try.prog h306 50 (nx h298) (off 0 2) v451 fun h307 =>
          asI .i64 (gv ws61 0) fun n377 =>
          out .normal [(.int .i64 (add .i64 n377 1))] h307) (
          asI .i64 (gv ws61 0) fun n378 =>
          out .normal [(.int .i64 (add .i64 n378 1))] h304)) (
        asI .i64 (gv ws61 0) fun n379 =>
        out .normal [(.int .i64 (add .i64 n379 1))] h304))) (
    out (.exit 4) [gv ws61 0] h302)

noncomputable def f16_l33 (_rec : Rec) (_k : Nat) (n2 : Int) (ws60 : List Value) (h298 : H) (v461 : Value) (n385 : Int) (ws63 : List Value) (h313 : H) : Option (Ex × List Value × H) :=
  asI .i64 (gv ws63 0) fun n386 =>
  ifB (lt n386 n385) (
    asK (gv ws63 0) fun n387 =>
    six v461 n387 4 fun b50 b51 =>
    ld Try.prog h313 67 b50 b51 fun v462 =>
    al h313 67 [(.int .i64 0), (.int .i64 0), (.int .i64 0), (.int .i64 0)] fun h314 =>
    st Try.prog h314 67 (nx h313) 0 v462 fun h315 =>
    asK (gv ws63 0) fun n388 =>
    nn n388 (
      ifB (eq (and .i64 (shr .i64 n2 n388) 1) 1) (
        asI .i64 (gv ws63 0) fun n389 =>
        asI .i64 (gv ws60 1) fun n390 =>
        ifB (not (eq n389 n390)) (
          ld Try.prog h315 50 (nx h298) (off 0 2) fun v463 =>
          ld Try.prog h315 67 (nx h313) 0 fun v464 =>
          bls Try.prog h315 50 1 [(0, v464)] fun v465 h316 =>
          app Try.prog h316 50 50 v463 v465 fun v466 h317 =>
          st Try.prog h317 50 (nx h298) (off 0 2) v466 fun h318 =>
          asI .i64 (gv ws63 0) fun n391 =>
          out .normal [(.int .i64 (add .i64 n391 1))] h318) (
          asI .i64 (gv ws63 0) fun n392 =>
          out .normal [(.int .i64 (add .i64 n392 1))] h315)) (
        asI .i64 (gv ws63 0) fun n393 =>
        out .normal [(.int .i64 (add .i64 n393 1))] h315))) (
    out (.exit 4) [gv ws63 0] h313)

noncomputable def f16_l31 (rec : Rec) (k : Nat) (h0 : H) (n2 : Int) (ws60 : List Value) (h298 : H) : Option (Ex × List Value × H) :=
  ld Try.prog h298 45 (nx h0) (off 0 2) fun v440 =>
  len v440 fun n364 =>
  asI .i64 (gv ws60 1) fun n365 =>
  ifB (lt n365 n364) (
    asI .i64 (gv ws60 1) fun n366 =>
    ifB (le 0 n366) (
      asK (gv ws60 1) fun n367 =>
      nn n367 (
        ifB (eq (and .i64 (shr .i64 n2 n367) 1) 0) (
          asI .i64 (gv ws60 1) fun n368 =>
          out .normal [gv ws60 0, (.int .i64 (add .i64 n368 1))] h298) (
          ld Try.prog h298 3 (nx h0) 0 fun v441 =>
          asI .i64 v441 fun n369 =>
          ld Try.prog h298 3 (nx h0) (off 0 1) fun v442 =>
          asI .i64 v442 fun n370 =>
          bld Try.prog 52 [(0, (.int .i64 n369)), (1, (.int .i64 n370))] fun v443 =>
          al h298 52 [(.int .i64 0), (.int .i64 0), (.slice none 0 0)] fun h299 =>
          st Try.prog h299 52 (nx h298) 0 v443 fun h300 =>
          ld Try.prog h300 47 (nx h0) 0 fun v444 =>
          calls rec h300 37 [v444] fun v445 h301 =>
          fld Try.prog 52 v445 2 fun v446 =>
          len v446 fun n371 =>
          lp k (f16_l32 rec k n2 ws60 h298 v446 n371) [(.int .i64 0)] h301 fun e30 _ h308 =>
          onE e30 4 (
            ld Try.prog h308 52 (nx h298) 0 fun v452 =>
            calls rec h308 47 [v452] fun v453 h309 =>
            ext v453 0 fun _ =>
            ext v453 1 fun v455 =>
            asI .i64 v455 fun n380 =>
            asI .i64 (gv ws60 1) fun n381 =>
            eqv Try.prog 4 (.bool (eq n380 0)) (.bool (le 0 n381)) fun q53 =>
            ifB (not q53) (
              out .ret [(.bool false), gv ws60 1] h309) (
              asI .i64 (gv ws60 1) fun n382 =>
              out .normal [gv ws60 0, (.int .i64 (add .i64 n382 1))] h309)) (
            none)))) (
      ld Try.prog h298 3 (nx h0) 0 fun v456 =>
      asI .i64 v456 fun n383 =>
      ld Try.prog h298 3 (nx h0) (off 0 1) fun v457 =>
      asI .i64 v457 fun n384 =>
      bld Try.prog 52 [(0, (.int .i64 n383)), (1, (.int .i64 n384))] fun v458 =>
      al h298 52 [(.int .i64 0), (.int .i64 0), (.slice none 0 0)] fun h310 =>
      st Try.prog h310 52 (nx h298) 0 v458 fun h311 =>
      ld Try.prog h311 47 (nx h0) 0 fun v459 =>
      calls rec h311 37 [v459] fun v460 h312 =>
      fld Try.prog 52 v460 2 fun v461 =>
      len v461 fun n385 =>
      lp k (f16_l33 rec k n2 ws60 h298 v461 n385) [(.int .i64 0)] h312 fun e31 _ h319 =>
      onE e31 4 (
        ld Try.prog h319 52 (nx h298) 0 fun v467 =>
        calls rec h319 47 [v467] fun v468 h320 =>
        ext v468 0 fun _ =>
        ext v468 1 fun v470 =>
        asI .i64 v470 fun n394 =>
        asI .i64 (gv ws60 1) fun n395 =>
        eqv Try.prog 4 (.bool (eq n394 0)) (.bool (le 0 n395)) fun q54 =>
        ifB (not q54) (
          out .ret [(.bool false), gv ws60 1] h320) (
          asI .i64 (gv ws60 1) fun n396 =>
          out .normal [gv ws60 0, (.int .i64 (add .i64 n396 1))] h320)) (
        none))) (
    out (.exit 2) [gv ws60 0, gv ws60 1] h298)

noncomputable def f16_l35 (_rec : Rec) (_k : Nat) (n2 : Int) (ws66 : List Value) (h329 : H) (v492 : Value) (n409 : Int) (ws67 : List Value) (h333 : H) : Option (Ex × List Value × H) :=
  asI .i64 (gv ws67 0) fun n410 =>
  ifB (lt n410 n409) (
    asK (gv ws67 0) fun n411 =>
    six v492 n411 4 fun b52 b53 =>
    ld Try.prog h333 67 b52 b53 fun v493 =>
    al h333 67 [(.int .i64 0), (.int .i64 0), (.int .i64 0), (.int .i64 0)] fun h334 =>
    st Try.prog h334 67 (nx h333) 0 v493 fun h335 =>
    asK (gv ws67 0) fun n412 =>
    nn n412 (
      ifB (eq (and .i64 (shr .i64 n2 n412) 1) 1) (
        asI .i64 (gv ws67 0) fun n413 =>
        asI .i64 (gv ws66 1) fun n414 =>
        ifB (not (eq n413 n414)) (
          ld Try.prog h335 50 (nx h329) (off 0 2) fun v494 =>
          ld Try.prog h335 67 (nx h333) 0 fun v495 =>
          bls Try.prog h335 50 1 [(0, v495)] fun v496 h336 =>
          app Try.prog h336 50 50 v494 v496 fun v497 h337 =>
          st Try.prog h337 50 (nx h329) (off 0 2) v497 fun h338 =>
          asI .i64 (gv ws67 0) fun n415 =>
          out .normal [(.int .i64 (add .i64 n415 1))] h338) (
          asI .i64 (gv ws67 0) fun n416 =>
          out .normal [(.int .i64 (add .i64 n416 1))] h335)) (
        asI .i64 (gv ws67 0) fun n417 =>
        out .normal [(.int .i64 (add .i64 n417 1))] h335))) (
    out (.exit 4) [gv ws67 0] h333)

noncomputable def f16_l36 (_rec : Rec) (_k : Nat) (n2 : Int) (ws66 : List Value) (h329 : H) (v507 : Value) (n423 : Int) (ws69 : List Value) (h344 : H) : Option (Ex × List Value × H) :=
  asI .i64 (gv ws69 0) fun n424 =>
  ifB (lt n424 n423) (
    asK (gv ws69 0) fun n425 =>
    six v507 n425 4 fun b54 b55 =>
    ld Try.prog h344 67 b54 b55 fun v508 =>
    al h344 67 [(.int .i64 0), (.int .i64 0), (.int .i64 0), (.int .i64 0)] fun h345 =>
    st Try.prog h345 67 (nx h344) 0 v508 fun h346 =>
    asK (gv ws69 0) fun n426 =>
    nn n426 (
      ifB (eq (and .i64 (shr .i64 n2 n426) 1) 1) (
        asI .i64 (gv ws69 0) fun n427 =>
        asI .i64 (gv ws66 1) fun n428 =>
        ifB (not (eq n427 n428)) (
          ld Try.prog h346 50 (nx h329) (off 0 2) fun v509 =>
          ld Try.prog h346 67 (nx h344) 0 fun v510 =>
          bls Try.prog h346 50 1 [(0, v510)] fun v511 h347 =>
          app Try.prog h347 50 50 v509 v511 fun v512 h348 =>
          st Try.prog h348 50 (nx h329) (off 0 2) v512 fun h349 =>
          asI .i64 (gv ws69 0) fun n429 =>
          out .normal [(.int .i64 (add .i64 n429 1))] h349) (
          asI .i64 (gv ws69 0) fun n430 =>
          out .normal [(.int .i64 (add .i64 n430 1))] h346)) (
        asI .i64 (gv ws69 0) fun n431 =>
        out .normal [(.int .i64 (add .i64 n431 1))] h346))) (
    out (.exit 4) [gv ws69 0] h344)

noncomputable def f16_l34 (rec : Rec) (k : Nat) (h0 : H) (n2 : Int) (ws66 : List Value) (h329 : H) : Option (Ex × List Value × H) :=
  ld Try.prog h329 45 (nx h0) (off 0 2) fun v486 =>
  len v486 fun n402 =>
  asI .i64 (gv ws66 1) fun n403 =>
  ifB (lt n403 n402) (
    asI .i64 (gv ws66 1) fun n404 =>
    ifB (le 0 n404) (
      asK (gv ws66 1) fun n405 =>
      nn n405 (
        ifB (eq (and .i64 (shr .i64 n2 n405) 1) 0) (
          asI .i64 (gv ws66 1) fun n406 =>
          out .normal [gv ws66 0, (.int .i64 (add .i64 n406 1))] h329) (
          ld Try.prog h329 3 (nx h0) 0 fun v487 =>
          asI .i64 v487 fun n407 =>
          ld Try.prog h329 3 (nx h0) (off 0 1) fun v488 =>
          asI .i64 v488 fun n408 =>
          bld Try.prog 52 [(0, (.int .i64 n407)), (1, (.int .i64 n408))] fun v489 =>
          al h329 52 [(.int .i64 0), (.int .i64 0), (.slice none 0 0)] fun h330 =>
          st Try.prog h330 52 (nx h329) 0 v489 fun h331 =>
          ld Try.prog h331 47 (nx h0) 0 fun v490 =>
          calls rec h331 37 [v490] fun v491 h332 =>
          fld Try.prog 52 v491 2 fun v492 =>
          len v492 fun n409 =>
          lp k (f16_l35 rec k n2 ws66 h329 v492 n409) [(.int .i64 0)] h332 fun e33 _ h339 =>
          onE e33 4 (
            ld Try.prog h339 52 (nx h329) 0 fun v498 =>
            calls rec h339 47 [v498] fun v499 h340 =>
            ext v499 0 fun _ =>
            ext v499 1 fun v501 =>
            asI .i64 v501 fun n418 =>
            asI .i64 (gv ws66 1) fun n419 =>
            eqv Try.prog 4 (.bool (eq n418 0)) (.bool (le 0 n419)) fun q58 =>
            ifB (not q58) (
              out .ret [(.bool false), gv ws66 1] h340) (
              asI .i64 (gv ws66 1) fun n420 =>
              out .normal [gv ws66 0, (.int .i64 (add .i64 n420 1))] h340)) (
            none)))) (
      ld Try.prog h329 3 (nx h0) 0 fun v502 =>
      asI .i64 v502 fun n421 =>
      ld Try.prog h329 3 (nx h0) (off 0 1) fun v503 =>
      asI .i64 v503 fun n422 =>
      bld Try.prog 52 [(0, (.int .i64 n421)), (1, (.int .i64 n422))] fun v504 =>
      al h329 52 [(.int .i64 0), (.int .i64 0), (.slice none 0 0)] fun h341 =>
      st Try.prog h341 52 (nx h329) 0 v504 fun h342 =>
      ld Try.prog h342 47 (nx h0) 0 fun v505 =>
      calls rec h342 37 [v505] fun v506 h343 =>
      fld Try.prog 52 v506 2 fun v507 =>
      len v507 fun n423 =>
      lp k (f16_l36 rec k n2 ws66 h329 v507 n423) [(.int .i64 0)] h343 fun e34 _ h350 =>
      onE e34 4 (
        ld Try.prog h350 52 (nx h329) 0 fun v513 =>
        calls rec h350 47 [v513] fun v514 h351 =>
        ext v514 0 fun _ =>
        ext v514 1 fun v516 =>
        asI .i64 v516 fun n432 =>
        asI .i64 (gv ws66 1) fun n433 =>
        eqv Try.prog 4 (.bool (eq n432 0)) (.bool (le 0 n433)) fun q59 =>
        ifB (not q59) (
          out .ret [(.bool false), gv ws66 1] h351) (
          asI .i64 (gv ws66 1) fun n434 =>
          out .normal [gv ws66 0, (.int .i64 (add .i64 n434 1))] h351)) (
        none))) (
    out (.exit 2) [gv ws66 0, gv ws66 1] h329)

noncomputable def f16_l38 (_rec : Rec) (_k : Nat) (n2 : Int) (ws72 : List Value) (h357 : H) (v531 : Value) (n444 : Int) (ws73 : List Value) (h361 : H) : Option (Ex × List Value × H) :=
  asI .i64 (gv ws73 0) fun n445 =>
  ifB (lt n445 n444) (
    asK (gv ws73 0) fun n446 =>
    six v531 n446 4 fun b56 b57 =>
    ld Try.prog h361 67 b56 b57 fun v532 =>
    al h361 67 [(.int .i64 0), (.int .i64 0), (.int .i64 0), (.int .i64 0)] fun h362 =>
    st Try.prog h362 67 (nx h361) 0 v532 fun h363 =>
    asK (gv ws73 0) fun n447 =>
    nn n447 (
      ifB (eq (and .i64 (shr .i64 n2 n447) 1) 1) (
        asI .i64 (gv ws73 0) fun n448 =>
        asI .i64 (gv ws72 1) fun n449 =>
        ifB (not (eq n448 n449)) (
          ld Try.prog h363 50 (nx h357) (off 0 2) fun v533 =>
          ld Try.prog h363 67 (nx h361) 0 fun v534 =>
          bls Try.prog h363 50 1 [(0, v534)] fun v535 h364 =>
          app Try.prog h364 50 50 v533 v535 fun v536 h365 =>
          st Try.prog h365 50 (nx h357) (off 0 2) v536 fun h366 =>
          asI .i64 (gv ws73 0) fun n450 =>
          out .normal [(.int .i64 (add .i64 n450 1))] h366) (
          asI .i64 (gv ws73 0) fun n451 =>
          out .normal [(.int .i64 (add .i64 n451 1))] h363)) (
        asI .i64 (gv ws73 0) fun n452 =>
        out .normal [(.int .i64 (add .i64 n452 1))] h363))) (
    out (.exit 4) [gv ws73 0] h361)

noncomputable def f16_l39 (_rec : Rec) (_k : Nat) (n2 : Int) (ws72 : List Value) (h357 : H) (v546 : Value) (n458 : Int) (ws75 : List Value) (h372 : H) : Option (Ex × List Value × H) :=
  asI .i64 (gv ws75 0) fun n459 =>
  ifB (lt n459 n458) (
    asK (gv ws75 0) fun n460 =>
    six v546 n460 4 fun b58 b59 =>
    ld Try.prog h372 67 b58 b59 fun v547 =>
    al h372 67 [(.int .i64 0), (.int .i64 0), (.int .i64 0), (.int .i64 0)] fun h373 =>
    st Try.prog h373 67 (nx h372) 0 v547 fun h374 =>
    asK (gv ws75 0) fun n461 =>
    nn n461 (
      ifB (eq (and .i64 (shr .i64 n2 n461) 1) 1) (
        asI .i64 (gv ws75 0) fun n462 =>
        asI .i64 (gv ws72 1) fun n463 =>
        ifB (not (eq n462 n463)) (
          ld Try.prog h374 50 (nx h357) (off 0 2) fun v548 =>
          ld Try.prog h374 67 (nx h372) 0 fun v549 =>
          bls Try.prog h374 50 1 [(0, v549)] fun v550 h375 =>
          app Try.prog h375 50 50 v548 v550 fun v551 h376 =>
          st Try.prog h376 50 (nx h357) (off 0 2) v551 fun h377 =>
          asI .i64 (gv ws75 0) fun n464 =>
          out .normal [(.int .i64 (add .i64 n464 1))] h377) (
          asI .i64 (gv ws75 0) fun n465 =>
          out .normal [(.int .i64 (add .i64 n465 1))] h374)) (
        asI .i64 (gv ws75 0) fun n466 =>
        out .normal [(.int .i64 (add .i64 n466 1))] h374))) (
    out (.exit 4) [gv ws75 0] h372)

noncomputable def f16_l37 (rec : Rec) (k : Nat) (h0 : H) (n2 : Int) (ws72 : List Value) (h357 : H) : Option (Ex × List Value × H) :=
  ld Try.prog h357 45 (nx h0) (off 0 2) fun v525 =>
  len v525 fun n437 =>
  asI .i64 (gv ws72 1) fun n438 =>
  ifB (lt n438 n437) (
    asI .i64 (gv ws72 1) fun n439 =>
    ifB (le 0 n439) (
      asK (gv ws72 1) fun n440 =>
      nn n440 (
        ifB (eq (and .i64 (shr .i64 n2 n440) 1) 0) (
          asI .i64 (gv ws72 1) fun n441 =>
          out .normal [gv ws72 0, (.int .i64 (add .i64 n441 1))] h357) (
          ld Try.prog h357 3 (nx h0) 0 fun v526 =>
          asI .i64 v526 fun n442 =>
          ld Try.prog h357 3 (nx h0) (off 0 1) fun v527 =>
          asI .i64 v527 fun n443 =>
          bld Try.prog 52 [(0, (.int .i64 n442)), (1, (.int .i64 n443))] fun v528 =>
          al h357 52 [(.int .i64 0), (.int .i64 0), (.slice none 0 0)] fun h358 =>
          st Try.prog h358 52 (nx h357) 0 v528 fun h359 =>
          ld Try.prog h359 47 (nx h0) 0 fun v529 =>
          calls rec h359 37 [v529] fun v530 h360 =>
          fld Try.prog 52 v530 2 fun v531 =>
          len v531 fun n444 =>
          lp k (f16_l38 rec k n2 ws72 h357 v531 n444) [(.int .i64 0)] h360 fun e36 _ h367 =>
          onE e36 4 (
            ld Try.prog h367 52 (nx h357) 0 fun v537 =>
            calls rec h367 47 [v537] fun v538 h368 =>
            ext v538 0 fun _ =>
            ext v538 1 fun v540 =>
            asI .i64 v540 fun n453 =>
            asI .i64 (gv ws72 1) fun n454 =>
            eqv Try.prog 4 (.bool (eq n453 0)) (.bool (le 0 n454)) fun q63 =>
            ifB (not q63) (
              out .ret [(.bool false), gv ws72 1] h368) (
              asI .i64 (gv ws72 1) fun n455 =>
              out .normal [gv ws72 0, (.int .i64 (add .i64 n455 1))] h368)) (
            none)))) (
      ld Try.prog h357 3 (nx h0) 0 fun v541 =>
      asI .i64 v541 fun n456 =>
      ld Try.prog h357 3 (nx h0) (off 0 1) fun v542 =>
      asI .i64 v542 fun n457 =>
      bld Try.prog 52 [(0, (.int .i64 n456)), (1, (.int .i64 n457))] fun v543 =>
      al h357 52 [(.int .i64 0), (.int .i64 0), (.slice none 0 0)] fun h369 =>
      st Try.prog h369 52 (nx h357) 0 v543 fun h370 =>
      ld Try.prog h370 47 (nx h0) 0 fun v544 =>
      calls rec h370 37 [v544] fun v545 h371 =>
      fld Try.prog 52 v545 2 fun v546 =>
      len v546 fun n458 =>
      lp k (f16_l39 rec k n2 ws72 h357 v546 n458) [(.int .i64 0)] h371 fun e37 _ h378 =>
      onE e37 4 (
        ld Try.prog h378 52 (nx h357) 0 fun v552 =>
        calls rec h378 47 [v552] fun v553 h379 =>
        ext v553 0 fun _ =>
        ext v553 1 fun v555 =>
        asI .i64 v555 fun n467 =>
        asI .i64 (gv ws72 1) fun n468 =>
        eqv Try.prog 4 (.bool (eq n467 0)) (.bool (le 0 n468)) fun q64 =>
        ifB (not q64) (
          out .ret [(.bool false), gv ws72 1] h379) (
          asI .i64 (gv ws72 1) fun n469 =>
          out .normal [gv ws72 0, (.int .i64 (add .i64 n469 1))] h379)) (
        none))) (
    out (.exit 2) [gv ws72 0, gv ws72 1] h357)

noncomputable def f16_l40 (_rec : Rec) (_k : Nat) (n0 : Int) (h0 : H) (v557 : Value) (n470 : Int) (ws78 : List Value) (h383 : H) : Option (Ex × List Value × H) :=
  asI .i64 (gv ws78 0) fun n471 =>
  ifB (lt n471 n470) (
    asK (gv ws78 0) fun n472 =>
    six v557 n472 1 fun b60 b61 =>
    ld Try.prog h383 3 b60 b61 fun v558 =>
    asI .i64 v558 fun n473 =>
    ld Try.prog h383 3 (nx h0) 0 fun v559 =>
    asI .i64 v559 fun n474 =>
    nz (wr .u64 n474) (
      ld Try.prog h383 3 (nx h0) 0 fun v560 =>
      asI .i64 v560 fun n475 =>
      nz n475 (
        asK (gv ws78 0) fun n476 =>
        six v557 n476 1 fun b62 b63 =>
        st Try.prog h383 3 b62 b63 (.int .i64 (rem .i64 (add .i64 n473 (wr .i64 (rem .u64 (wr .u64 n0) (wr .u64 n474)))) n475)) fun h384 =>
        asI .i64 (gv ws78 0) fun n477 =>
        out .normal [(.int .i64 (add .i64 n477 1))] h384))) (
    out (.exit 0) [gv ws78 0] h383)

noncomputable def f16_l42 (_rec : Rec) (_k : Nat) (n2 : Int) (ws80 : List Value) (h394 : H) (v586 : Value) (n491 : Int) (ws81 : List Value) (h398 : H) : Option (Ex × List Value × H) :=
  asI .i64 (gv ws81 0) fun n492 =>
  ifB (lt n492 n491) (
    asK (gv ws81 0) fun n493 =>
    six v586 n493 4 fun b64 b65 =>
    ld Try.prog h398 67 b64 b65 fun v587 =>
    al h398 67 [(.int .i64 0), (.int .i64 0), (.int .i64 0), (.int .i64 0)] fun h399 =>
    st Try.prog h399 67 (nx h398) 0 v587 fun h400 =>
    asK (gv ws81 0) fun n494 =>
    nn n494 (
      ifB (eq (and .i64 (shr .i64 n2 n494) 1) 1) (
        asI .i64 (gv ws81 0) fun n495 =>
        asI .i64 (gv ws80 1) fun n496 =>
        ifB (not (eq n495 n496)) (
          ld Try.prog h400 50 (nx h394) (off 0 2) fun v588 =>
          ld Try.prog h400 67 (nx h398) 0 fun v589 =>
          bls Try.prog h400 50 1 [(0, v589)] fun v590 h401 =>
          app Try.prog h401 50 50 v588 v590 fun v591 h402 =>
          st Try.prog h402 50 (nx h394) (off 0 2) v591 fun h403 =>
          asI .i64 (gv ws81 0) fun n497 =>
          out .normal [(.int .i64 (add .i64 n497 1))] h403) (
          asI .i64 (gv ws81 0) fun n498 =>
          out .normal [(.int .i64 (add .i64 n498 1))] h400)) (
        asI .i64 (gv ws81 0) fun n499 =>
        out .normal [(.int .i64 (add .i64 n499 1))] h400))) (
    out (.exit 4) [gv ws81 0] h398)

noncomputable def f16_l43 (_rec : Rec) (_k : Nat) (n2 : Int) (ws80 : List Value) (h394 : H) (v601 : Value) (n505 : Int) (ws83 : List Value) (h409 : H) : Option (Ex × List Value × H) :=
  asI .i64 (gv ws83 0) fun n506 =>
  ifB (lt n506 n505) (
    asK (gv ws83 0) fun n507 =>
    six v601 n507 4 fun b66 b67 =>
    ld Try.prog h409 67 b66 b67 fun v602 =>
    al h409 67 [(.int .i64 0), (.int .i64 0), (.int .i64 0), (.int .i64 0)] fun h410 =>
    st Try.prog h410 67 (nx h409) 0 v602 fun h411 =>
    asK (gv ws83 0) fun n508 =>
    nn n508 (
      ifB (eq (and .i64 (shr .i64 n2 n508) 1) 1) (
        asI .i64 (gv ws83 0) fun n509 =>
        asI .i64 (gv ws80 1) fun n510 =>
        ifB (not (eq n509 n510)) (
          ld Try.prog h411 50 (nx h394) (off 0 2) fun v603 =>
          ld Try.prog h411 67 (nx h409) 0 fun v604 =>
          bls Try.prog h411 50 1 [(0, v604)] fun v605 h412 =>
          app Try.prog h412 50 50 v603 v605 fun v606 h413 =>
          st Try.prog h413 50 (nx h394) (off 0 2) v606 fun h414 =>
          asI .i64 (gv ws83 0) fun n511 =>
          out .normal [(.int .i64 (add .i64 n511 1))] h414) (
          asI .i64 (gv ws83 0) fun n512 =>
          out .normal [(.int .i64 (add .i64 n512 1))] h411)) (
        asI .i64 (gv ws83 0) fun n513 =>
        out .normal [(.int .i64 (add .i64 n513 1))] h411))) (
    out (.exit 4) [gv ws83 0] h409)

noncomputable def f16_l41 (rec : Rec) (k : Nat) (h0 : H) (n2 : Int) (ws80 : List Value) (h394 : H) : Option (Ex × List Value × H) :=
  ld Try.prog h394 45 (nx h0) (off 0 2) fun v580 =>
  len v580 fun n484 =>
  asI .i64 (gv ws80 1) fun n485 =>
  ifB (lt n485 n484) (
    asI .i64 (gv ws80 1) fun n486 =>
    ifB (le 0 n486) (
      asK (gv ws80 1) fun n487 =>
      nn n487 (
        ifB (eq (and .i64 (shr .i64 n2 n487) 1) 0) (
          asI .i64 (gv ws80 1) fun n488 =>
          out .normal [gv ws80 0, (.int .i64 (add .i64 n488 1))] h394) (
          ld Try.prog h394 3 (nx h0) 0 fun v581 =>
          asI .i64 v581 fun n489 =>
          ld Try.prog h394 3 (nx h0) (off 0 1) fun v582 =>
          asI .i64 v582 fun n490 =>
          bld Try.prog 52 [(0, (.int .i64 n489)), (1, (.int .i64 n490))] fun v583 =>
          al h394 52 [(.int .i64 0), (.int .i64 0), (.slice none 0 0)] fun h395 =>
          st Try.prog h395 52 (nx h394) 0 v583 fun h396 =>
          ld Try.prog h396 47 (nx h0) 0 fun v584 =>
          calls rec h396 37 [v584] fun v585 h397 =>
          fld Try.prog 52 v585 2 fun v586 =>
          len v586 fun n491 =>
          lp k (f16_l42 rec k n2 ws80 h394 v586 n491) [(.int .i64 0)] h397 fun e40 _ h404 =>
          onE e40 4 (
            ld Try.prog h404 52 (nx h394) 0 fun v592 =>
            calls rec h404 47 [v592] fun v593 h405 =>
            ext v593 0 fun _ =>
            ext v593 1 fun v595 =>
            asI .i64 v595 fun n500 =>
            asI .i64 (gv ws80 1) fun n501 =>
            eqv Try.prog 4 (.bool (eq n500 0)) (.bool (le 0 n501)) fun q69 =>
            ifB (not q69) (
              out .ret [(.bool false), gv ws80 1] h405) (
              asI .i64 (gv ws80 1) fun n502 =>
              out .normal [gv ws80 0, (.int .i64 (add .i64 n502 1))] h405)) (
            none)))) (
      ld Try.prog h394 3 (nx h0) 0 fun v596 =>
      asI .i64 v596 fun n503 =>
      ld Try.prog h394 3 (nx h0) (off 0 1) fun v597 =>
      asI .i64 v597 fun n504 =>
      bld Try.prog 52 [(0, (.int .i64 n503)), (1, (.int .i64 n504))] fun v598 =>
      al h394 52 [(.int .i64 0), (.int .i64 0), (.slice none 0 0)] fun h406 =>
      st Try.prog h406 52 (nx h394) 0 v598 fun h407 =>
      ld Try.prog h407 47 (nx h0) 0 fun v599 =>
      calls rec h407 37 [v599] fun v600 h408 =>
      fld Try.prog 52 v600 2 fun v601 =>
      len v601 fun n505 =>
      lp k (f16_l43 rec k n2 ws80 h394 v601 n505) [(.int .i64 0)] h408 fun e41 _ h415 =>
      onE e41 4 (
        ld Try.prog h415 52 (nx h394) 0 fun v607 =>
        calls rec h415 47 [v607] fun v608 h416 =>
        ext v608 0 fun _ =>
        ext v608 1 fun v610 =>
        asI .i64 v610 fun n514 =>
        asI .i64 (gv ws80 1) fun n515 =>
        eqv Try.prog 4 (.bool (eq n514 0)) (.bool (le 0 n515)) fun q70 =>
        ifB (not q70) (
          out .ret [(.bool false), gv ws80 1] h416) (
          asI .i64 (gv ws80 1) fun n516 =>
          out .normal [gv ws80 0, (.int .i64 (add .i64 n516 1))] h416)) (
        none))) (
    out (.exit 2) [gv ws80 0, gv ws80 1] h394)

noncomputable def f16_l45 (_rec : Rec) (_k : Nat) (n2 : Int) (ws86 : List Value) (h422 : H) (v625 : Value) (n526 : Int) (ws87 : List Value) (h426 : H) : Option (Ex × List Value × H) :=
  asI .i64 (gv ws87 0) fun n527 =>
  ifB (lt n527 n526) (
    asK (gv ws87 0) fun n528 =>
    six v625 n528 4 fun b68 b69 =>
    ld Try.prog h426 67 b68 b69 fun v626 =>
    al h426 67 [(.int .i64 0), (.int .i64 0), (.int .i64 0), (.int .i64 0)] fun h427 =>
    st Try.prog h427 67 (nx h426) 0 v626 fun h428 =>
    asK (gv ws87 0) fun n529 =>
    nn n529 (
      ifB (eq (and .i64 (shr .i64 n2 n529) 1) 1) (
        asI .i64 (gv ws87 0) fun n530 =>
        asI .i64 (gv ws86 1) fun n531 =>
        ifB (not (eq n530 n531)) (
          ld Try.prog h428 50 (nx h422) (off 0 2) fun v627 =>
          ld Try.prog h428 67 (nx h426) 0 fun v628 =>
          bls Try.prog h428 50 1 [(0, v628)] fun v629 h429 =>
          app Try.prog h429 50 50 v627 v629 fun v630 h430 =>
          st Try.prog h430 50 (nx h422) (off 0 2) v630 fun h431 =>
          asI .i64 (gv ws87 0) fun n532 =>
          out .normal [(.int .i64 (add .i64 n532 1))] h431) (
          asI .i64 (gv ws87 0) fun n533 =>
          out .normal [(.int .i64 (add .i64 n533 1))] h428)) (
        asI .i64 (gv ws87 0) fun n534 =>
        out .normal [(.int .i64 (add .i64 n534 1))] h428))) (
    out (.exit 4) [gv ws87 0] h426)

noncomputable def f16_l46 (_rec : Rec) (_k : Nat) (n2 : Int) (ws86 : List Value) (h422 : H) (v640 : Value) (n540 : Int) (ws89 : List Value) (h437 : H) : Option (Ex × List Value × H) :=
  asI .i64 (gv ws89 0) fun n541 =>
  ifB (lt n541 n540) (
    asK (gv ws89 0) fun n542 =>
    six v640 n542 4 fun b70 b71 =>
    ld Try.prog h437 67 b70 b71 fun v641 =>
    al h437 67 [(.int .i64 0), (.int .i64 0), (.int .i64 0), (.int .i64 0)] fun h438 =>
    st Try.prog h438 67 (nx h437) 0 v641 fun h439 =>
    asK (gv ws89 0) fun n543 =>
    nn n543 (
      ifB (eq (and .i64 (shr .i64 n2 n543) 1) 1) (
        asI .i64 (gv ws89 0) fun n544 =>
        asI .i64 (gv ws86 1) fun n545 =>
        ifB (not (eq n544 n545)) (
          ld Try.prog h439 50 (nx h422) (off 0 2) fun v642 =>
          ld Try.prog h439 67 (nx h437) 0 fun v643 =>
          bls Try.prog h439 50 1 [(0, v643)] fun v644 h440 =>
          app Try.prog h440 50 50 v642 v644 fun v645 h441 =>
          st Try.prog h441 50 (nx h422) (off 0 2) v645 fun h442 =>
          asI .i64 (gv ws89 0) fun n546 =>
          out .normal [(.int .i64 (add .i64 n546 1))] h442) (
          asI .i64 (gv ws89 0) fun n547 =>
          out .normal [(.int .i64 (add .i64 n547 1))] h439)) (
        asI .i64 (gv ws89 0) fun n548 =>
        out .normal [(.int .i64 (add .i64 n548 1))] h439))) (
    out (.exit 4) [gv ws89 0] h437)

noncomputable def f16_l44 (rec : Rec) (k : Nat) (h0 : H) (n2 : Int) (ws86 : List Value) (h422 : H) : Option (Ex × List Value × H) :=
  ld Try.prog h422 45 (nx h0) (off 0 2) fun v619 =>
  len v619 fun n519 =>
  asI .i64 (gv ws86 1) fun n520 =>
  ifB (lt n520 n519) (
    asI .i64 (gv ws86 1) fun n521 =>
    ifB (le 0 n521) (
      asK (gv ws86 1) fun n522 =>
      nn n522 (
        ifB (eq (and .i64 (shr .i64 n2 n522) 1) 0) (
          asI .i64 (gv ws86 1) fun n523 =>
          out .normal [gv ws86 0, (.int .i64 (add .i64 n523 1))] h422) (
          ld Try.prog h422 3 (nx h0) 0 fun v620 =>
          asI .i64 v620 fun n524 =>
          ld Try.prog h422 3 (nx h0) (off 0 1) fun v621 =>
          asI .i64 v621 fun n525 =>
          bld Try.prog 52 [(0, (.int .i64 n524)), (1, (.int .i64 n525))] fun v622 =>
          al h422 52 [(.int .i64 0), (.int .i64 0), (.slice none 0 0)] fun h423 =>
          st Try.prog h423 52 (nx h422) 0 v622 fun h424 =>
          ld Try.prog h424 47 (nx h0) 0 fun v623 =>
          calls rec h424 37 [v623] fun v624 h425 =>
          fld Try.prog 52 v624 2 fun v625 =>
          len v625 fun n526 =>
          lp k (f16_l45 rec k n2 ws86 h422 v625 n526) [(.int .i64 0)] h425 fun e43 _ h432 =>
          onE e43 4 (
            ld Try.prog h432 52 (nx h422) 0 fun v631 =>
            calls rec h432 47 [v631] fun v632 h433 =>
            ext v632 0 fun _ =>
            ext v632 1 fun v634 =>
            asI .i64 v634 fun n535 =>
            asI .i64 (gv ws86 1) fun n536 =>
            eqv Try.prog 4 (.bool (eq n535 0)) (.bool (le 0 n536)) fun q74 =>
            ifB (not q74) (
              out .ret [(.bool false), gv ws86 1] h433) (
              asI .i64 (gv ws86 1) fun n537 =>
              out .normal [gv ws86 0, (.int .i64 (add .i64 n537 1))] h433)) (
            none)))) (
      ld Try.prog h422 3 (nx h0) 0 fun v635 =>
      asI .i64 v635 fun n538 =>
      ld Try.prog h422 3 (nx h0) (off 0 1) fun v636 =>
      asI .i64 v636 fun n539 =>
      bld Try.prog 52 [(0, (.int .i64 n538)), (1, (.int .i64 n539))] fun v637 =>
      al h422 52 [(.int .i64 0), (.int .i64 0), (.slice none 0 0)] fun h434 =>
      st Try.prog h434 52 (nx h422) 0 v637 fun h435 =>
      ld Try.prog h435 47 (nx h0) 0 fun v638 =>
      calls rec h435 37 [v638] fun v639 h436 =>
      fld Try.prog 52 v639 2 fun v640 =>
      len v640 fun n540 =>
      lp k (f16_l46 rec k n2 ws86 h422 v640 n540) [(.int .i64 0)] h436 fun e44 _ h443 =>
      onE e44 4 (
        ld Try.prog h443 52 (nx h422) 0 fun v646 =>
        calls rec h443 47 [v646] fun v647 h444 =>
        ext v647 0 fun _ =>
        ext v647 1 fun v649 =>
        asI .i64 v649 fun n549 =>
        asI .i64 (gv ws86 1) fun n550 =>
        eqv Try.prog 4 (.bool (eq n549 0)) (.bool (le 0 n550)) fun q75 =>
        ifB (not q75) (
          out .ret [(.bool false), gv ws86 1] h444) (
          asI .i64 (gv ws86 1) fun n551 =>
          out .normal [gv ws86 0, (.int .i64 (add .i64 n551 1))] h444)) (
        none))) (
    out (.exit 2) [gv ws86 0, gv ws86 1] h422)

noncomputable def f16_l48 (_rec : Rec) (_k : Nat) (n2 : Int) (ws92 : List Value) (h453 : H) (v671 : Value) (n564 : Int) (ws93 : List Value) (h457 : H) : Option (Ex × List Value × H) :=
  asI .i64 (gv ws93 0) fun n565 =>
  ifB (lt n565 n564) (
    asK (gv ws93 0) fun n566 =>
    six v671 n566 4 fun b72 b73 =>
    ld Try.prog h457 67 b72 b73 fun v672 =>
    al h457 67 [(.int .i64 0), (.int .i64 0), (.int .i64 0), (.int .i64 0)] fun h458 =>
    st Try.prog h458 67 (nx h457) 0 v672 fun h459 =>
    asK (gv ws93 0) fun n567 =>
    nn n567 (
      ifB (eq (and .i64 (shr .i64 n2 n567) 1) 1) (
        asI .i64 (gv ws93 0) fun n568 =>
        asI .i64 (gv ws92 1) fun n569 =>
        ifB (not (eq n568 n569)) (
          ld Try.prog h459 50 (nx h453) (off 0 2) fun v673 =>
          ld Try.prog h459 67 (nx h457) 0 fun v674 =>
          bls Try.prog h459 50 1 [(0, v674)] fun v675 h460 =>
          app Try.prog h460 50 50 v673 v675 fun v676 h461 =>
          st Try.prog h461 50 (nx h453) (off 0 2) v676 fun h462 =>
          asI .i64 (gv ws93 0) fun n570 =>
          out .normal [(.int .i64 (add .i64 n570 1))] h462) (
          asI .i64 (gv ws93 0) fun n571 =>
          out .normal [(.int .i64 (add .i64 n571 1))] h459)) (
        asI .i64 (gv ws93 0) fun n572 =>
        out .normal [(.int .i64 (add .i64 n572 1))] h459))) (
    out (.exit 4) [gv ws93 0] h457)

noncomputable def f16_l49 (_rec : Rec) (_k : Nat) (n2 : Int) (ws92 : List Value) (h453 : H) (v686 : Value) (n578 : Int) (ws95 : List Value) (h468 : H) : Option (Ex × List Value × H) :=
  asI .i64 (gv ws95 0) fun n579 =>
  ifB (lt n579 n578) (
    asK (gv ws95 0) fun n580 =>
    six v686 n580 4 fun b74 b75 =>
    ld Try.prog h468 67 b74 b75 fun v687 =>
    al h468 67 [(.int .i64 0), (.int .i64 0), (.int .i64 0), (.int .i64 0)] fun h469 =>
    st Try.prog h469 67 (nx h468) 0 v687 fun h470 =>
    asK (gv ws95 0) fun n581 =>
    nn n581 (
      ifB (eq (and .i64 (shr .i64 n2 n581) 1) 1) (
        asI .i64 (gv ws95 0) fun n582 =>
        asI .i64 (gv ws92 1) fun n583 =>
        ifB (not (eq n582 n583)) (
          ld Try.prog h470 50 (nx h453) (off 0 2) fun v688 =>
          ld Try.prog h470 67 (nx h468) 0 fun v689 =>
          bls Try.prog h470 50 1 [(0, v689)] fun v690 h471 =>
          app Try.prog h471 50 50 v688 v690 fun v691 h472 =>
          st Try.prog h472 50 (nx h453) (off 0 2) v691 fun h473 =>
          asI .i64 (gv ws95 0) fun n584 =>
          out .normal [(.int .i64 (add .i64 n584 1))] h473) (
          asI .i64 (gv ws95 0) fun n585 =>
          out .normal [(.int .i64 (add .i64 n585 1))] h470)) (
        asI .i64 (gv ws95 0) fun n586 =>
        out .normal [(.int .i64 (add .i64 n586 1))] h470))) (
    out (.exit 4) [gv ws95 0] h468)

noncomputable def f16_l47 (rec : Rec) (k : Nat) (h0 : H) (n2 : Int) (ws92 : List Value) (h453 : H) : Option (Ex × List Value × H) :=
  ld Try.prog h453 45 (nx h0) (off 0 2) fun v665 =>
  len v665 fun n557 =>
  asI .i64 (gv ws92 1) fun n558 =>
  ifB (lt n558 n557) (
    asI .i64 (gv ws92 1) fun n559 =>
    ifB (le 0 n559) (
      asK (gv ws92 1) fun n560 =>
      nn n560 (
        ifB (eq (and .i64 (shr .i64 n2 n560) 1) 0) (
          asI .i64 (gv ws92 1) fun n561 =>
          out .normal [gv ws92 0, (.int .i64 (add .i64 n561 1))] h453) (
          ld Try.prog h453 3 (nx h0) 0 fun v666 =>
          asI .i64 v666 fun n562 =>
          ld Try.prog h453 3 (nx h0) (off 0 1) fun v667 =>
          asI .i64 v667 fun n563 =>
          bld Try.prog 52 [(0, (.int .i64 n562)), (1, (.int .i64 n563))] fun v668 =>
          al h453 52 [(.int .i64 0), (.int .i64 0), (.slice none 0 0)] fun h454 =>
          st Try.prog h454 52 (nx h453) 0 v668 fun h455 =>
          ld Try.prog h455 47 (nx h0) 0 fun v669 =>
          calls rec h455 37 [v669] fun v670 h456 =>
          fld Try.prog 52 v670 2 fun v671 =>
          len v671 fun n564 =>
          lp k (f16_l48 rec k n2 ws92 h453 v671 n564) [(.int .i64 0)] h456 fun e46 _ h463 =>
          onE e46 4 (
            ld Try.prog h463 52 (nx h453) 0 fun v677 =>
            calls rec h463 47 [v677] fun v678 h464 =>
            ext v678 0 fun _ =>
            ext v678 1 fun v680 =>
            asI .i64 v680 fun n573 =>
            asI .i64 (gv ws92 1) fun n574 =>
            eqv Try.prog 4 (.bool (eq n573 0)) (.bool (le 0 n574)) fun q79 =>
            ifB (not q79) (
              out .ret [(.bool false), gv ws92 1] h464) (
              asI .i64 (gv ws92 1) fun n575 =>
              out .normal [gv ws92 0, (.int .i64 (add .i64 n575 1))] h464)) (
            none)))) (
      ld Try.prog h453 3 (nx h0) 0 fun v681 =>
      asI .i64 v681 fun n576 =>
      ld Try.prog h453 3 (nx h0) (off 0 1) fun v682 =>
      asI .i64 v682 fun n577 =>
      bld Try.prog 52 [(0, (.int .i64 n576)), (1, (.int .i64 n577))] fun v683 =>
      al h453 52 [(.int .i64 0), (.int .i64 0), (.slice none 0 0)] fun h465 =>
      st Try.prog h465 52 (nx h453) 0 v683 fun h466 =>
      ld Try.prog h466 47 (nx h0) 0 fun v684 =>
      calls rec h466 37 [v684] fun v685 h467 =>
      fld Try.prog 52 v685 2 fun v686 =>
      len v686 fun n578 =>
      lp k (f16_l49 rec k n2 ws92 h453 v686 n578) [(.int .i64 0)] h467 fun e47 _ h474 =>
      onE e47 4 (
        ld Try.prog h474 52 (nx h453) 0 fun v692 =>
        calls rec h474 47 [v692] fun v693 h475 =>
        ext v693 0 fun _ =>
        ext v693 1 fun v695 =>
        asI .i64 v695 fun n587 =>
        asI .i64 (gv ws92 1) fun n588 =>
        eqv Try.prog 4 (.bool (eq n587 0)) (.bool (le 0 n588)) fun q80 =>
        ifB (not q80) (
          out .ret [(.bool false), gv ws92 1] h475) (
          asI .i64 (gv ws92 1) fun n589 =>
          out .normal [gv ws92 0, (.int .i64 (add .i64 n589 1))] h475)) (
        none))) (
    out (.exit 2) [gv ws92 0, gv ws92 1] h453)

noncomputable def f16_l51 (_rec : Rec) (_k : Nat) (n2 : Int) (ws98 : List Value) (h481 : H) (v710 : Value) (n599 : Int) (ws99 : List Value) (h485 : H) : Option (Ex × List Value × H) :=
  asI .i64 (gv ws99 0) fun n600 =>
  ifB (lt n600 n599) (
    asK (gv ws99 0) fun n601 =>
    six v710 n601 4 fun b76 b77 =>
    ld Try.prog h485 67 b76 b77 fun v711 =>
    al h485 67 [(.int .i64 0), (.int .i64 0), (.int .i64 0), (.int .i64 0)] fun h486 =>
    st Try.prog h486 67 (nx h485) 0 v711 fun h487 =>
    asK (gv ws99 0) fun n602 =>
    nn n602 (
      ifB (eq (and .i64 (shr .i64 n2 n602) 1) 1) (
        asI .i64 (gv ws99 0) fun n603 =>
        asI .i64 (gv ws98 1) fun n604 =>
        ifB (not (eq n603 n604)) (
          ld Try.prog h487 50 (nx h481) (off 0 2) fun v712 =>
          ld Try.prog h487 67 (nx h485) 0 fun v713 =>
          bls Try.prog h487 50 1 [(0, v713)] fun v714 h488 =>
          app Try.prog h488 50 50 v712 v714 fun v715 h489 =>
          st Try.prog h489 50 (nx h481) (off 0 2) v715 fun h490 =>
          asI .i64 (gv ws99 0) fun n605 =>
          out .normal [(.int .i64 (add .i64 n605 1))] h490) (
          asI .i64 (gv ws99 0) fun n606 =>
          out .normal [(.int .i64 (add .i64 n606 1))] h487)) (
        asI .i64 (gv ws99 0) fun n607 =>
        out .normal [(.int .i64 (add .i64 n607 1))] h487))) (
    out (.exit 4) [gv ws99 0] h485)

noncomputable def f16_l52 (_rec : Rec) (_k : Nat) (n2 : Int) (ws98 : List Value) (h481 : H) (v725 : Value) (n613 : Int) (ws101 : List Value) (h496 : H) : Option (Ex × List Value × H) :=
  asI .i64 (gv ws101 0) fun n614 =>
  ifB (lt n614 n613) (
    asK (gv ws101 0) fun n615 =>
    six v725 n615 4 fun b78 b79 =>
    ld Try.prog h496 67 b78 b79 fun v726 =>
    al h496 67 [(.int .i64 0), (.int .i64 0), (.int .i64 0), (.int .i64 0)] fun h497 =>
    st Try.prog h497 67 (nx h496) 0 v726 fun h498 =>
    asK (gv ws101 0) fun n616 =>
    nn n616 (
      ifB (eq (and .i64 (shr .i64 n2 n616) 1) 1) (
        asI .i64 (gv ws101 0) fun n617 =>
        asI .i64 (gv ws98 1) fun n618 =>
        ifB (not (eq n617 n618)) (
          ld Try.prog h498 50 (nx h481) (off 0 2) fun v727 =>
          ld Try.prog h498 67 (nx h496) 0 fun v728 =>
          bls Try.prog h498 50 1 [(0, v728)] fun v729 h499 =>
          app Try.prog h499 50 50 v727 v729 fun v730 h500 =>
          st Try.prog h500 50 (nx h481) (off 0 2) v730 fun h501 =>
          asI .i64 (gv ws101 0) fun n619 =>
          out .normal [(.int .i64 (add .i64 n619 1))] h501) (
          asI .i64 (gv ws101 0) fun n620 =>
          out .normal [(.int .i64 (add .i64 n620 1))] h498)) (
        asI .i64 (gv ws101 0) fun n621 =>
        out .normal [(.int .i64 (add .i64 n621 1))] h498))) (
    out (.exit 4) [gv ws101 0] h496)

noncomputable def f16_l50 (rec : Rec) (k : Nat) (h0 : H) (n2 : Int) (ws98 : List Value) (h481 : H) : Option (Ex × List Value × H) :=
  ld Try.prog h481 45 (nx h0) (off 0 2) fun v704 =>
  len v704 fun n592 =>
  asI .i64 (gv ws98 1) fun n593 =>
  ifB (lt n593 n592) (
    asI .i64 (gv ws98 1) fun n594 =>
    ifB (le 0 n594) (
      asK (gv ws98 1) fun n595 =>
      nn n595 (
        ifB (eq (and .i64 (shr .i64 n2 n595) 1) 0) (
          asI .i64 (gv ws98 1) fun n596 =>
          out .normal [gv ws98 0, (.int .i64 (add .i64 n596 1))] h481) (
          ld Try.prog h481 3 (nx h0) 0 fun v705 =>
          asI .i64 v705 fun n597 =>
          ld Try.prog h481 3 (nx h0) (off 0 1) fun v706 =>
          asI .i64 v706 fun n598 =>
          bld Try.prog 52 [(0, (.int .i64 n597)), (1, (.int .i64 n598))] fun v707 =>
          al h481 52 [(.int .i64 0), (.int .i64 0), (.slice none 0 0)] fun h482 =>
          st Try.prog h482 52 (nx h481) 0 v707 fun h483 =>
          ld Try.prog h483 47 (nx h0) 0 fun v708 =>
          calls rec h483 37 [v708] fun v709 h484 =>
          fld Try.prog 52 v709 2 fun v710 =>
          len v710 fun n599 =>
          lp k (f16_l51 rec k n2 ws98 h481 v710 n599) [(.int .i64 0)] h484 fun e49 _ h491 =>
          onE e49 4 (
            ld Try.prog h491 52 (nx h481) 0 fun v716 =>
            calls rec h491 47 [v716] fun v717 h492 =>
            ext v717 0 fun _ =>
            ext v717 1 fun v719 =>
            asI .i64 v719 fun n608 =>
            asI .i64 (gv ws98 1) fun n609 =>
            eqv Try.prog 4 (.bool (eq n608 0)) (.bool (le 0 n609)) fun q84 =>
            ifB (not q84) (
              out .ret [(.bool false), gv ws98 1] h492) (
              asI .i64 (gv ws98 1) fun n610 =>
              out .normal [gv ws98 0, (.int .i64 (add .i64 n610 1))] h492)) (
            none)))) (
      ld Try.prog h481 3 (nx h0) 0 fun v720 =>
      asI .i64 v720 fun n611 =>
      ld Try.prog h481 3 (nx h0) (off 0 1) fun v721 =>
      asI .i64 v721 fun n612 =>
      bld Try.prog 52 [(0, (.int .i64 n611)), (1, (.int .i64 n612))] fun v722 =>
      al h481 52 [(.int .i64 0), (.int .i64 0), (.slice none 0 0)] fun h493 =>
      st Try.prog h493 52 (nx h481) 0 v722 fun h494 =>
      ld Try.prog h494 47 (nx h0) 0 fun v723 =>
      calls rec h494 37 [v723] fun v724 h495 =>
      fld Try.prog 52 v724 2 fun v725 =>
      len v725 fun n613 =>
      lp k (f16_l52 rec k n2 ws98 h481 v725 n613) [(.int .i64 0)] h495 fun e50 _ h502 =>
      onE e50 4 (
        ld Try.prog h502 52 (nx h481) 0 fun v731 =>
        calls rec h502 47 [v731] fun v732 h503 =>
        ext v732 0 fun _ =>
        ext v732 1 fun v734 =>
        asI .i64 v734 fun n622 =>
        asI .i64 (gv ws98 1) fun n623 =>
        eqv Try.prog 4 (.bool (eq n622 0)) (.bool (le 0 n623)) fun q85 =>
        ifB (not q85) (
          out .ret [(.bool false), gv ws98 1] h503) (
          asI .i64 (gv ws98 1) fun n624 =>
          out .normal [gv ws98 0, (.int .i64 (add .i64 n624 1))] h503)) (
        none))) (
    out (.exit 2) [gv ws98 0, gv ws98 1] h481)

noncomputable def f16_l53 (_rec : Rec) (_k : Nat) (n0 : Int) (h0 : H) (v736 : Value) (n625 : Int) (ws104 : List Value) (h507 : H) : Option (Ex × List Value × H) :=
  asI .i64 (gv ws104 0) fun n626 =>
  ifB (lt n626 n625) (
    asK (gv ws104 0) fun n627 =>
    six v736 n627 1 fun b80 b81 =>
    ld Try.prog h507 3 b80 b81 fun v737 =>
    asI .i64 v737 fun n628 =>
    ld Try.prog h507 3 (nx h0) 0 fun v738 =>
    asI .i64 v738 fun n629 =>
    nz (wr .u64 n629) (
      ld Try.prog h507 3 (nx h0) 0 fun v739 =>
      asI .i64 v739 fun n630 =>
      nz n630 (
        asK (gv ws104 0) fun n631 =>
        six v736 n631 1 fun b82 b83 =>
        st Try.prog h507 3 b82 b83 (.int .i64 (rem .i64 (add .i64 n628 (wr .i64 (rem .u64 (wr .u64 n0) (wr .u64 n629)))) n630)) fun h508 =>
        asI .i64 (gv ws104 0) fun n632 =>
        out .normal [(.int .i64 (add .i64 n632 1))] h508))) (
    out (.exit 0) [gv ws104 0] h507)

noncomputable def f16_l55 (_rec : Rec) (_k : Nat) (n2 : Int) (ws106 : List Value) (h518 : H) (v765 : Value) (n646 : Int) (ws107 : List Value) (h522 : H) : Option (Ex × List Value × H) :=
  asI .i64 (gv ws107 0) fun n647 =>
  ifB (lt n647 n646) (
    asK (gv ws107 0) fun n648 =>
    six v765 n648 4 fun b84 b85 =>
    ld Try.prog h522 67 b84 b85 fun v766 =>
    al h522 67 [(.int .i64 0), (.int .i64 0), (.int .i64 0), (.int .i64 0)] fun h523 =>
    st Try.prog h523 67 (nx h522) 0 v766 fun h524 =>
    asK (gv ws107 0) fun n649 =>
    nn n649 (
      ifB (eq (and .i64 (shr .i64 n2 n649) 1) 1) (
        asI .i64 (gv ws107 0) fun n650 =>
        asI .i64 (gv ws106 1) fun n651 =>
        ifB (not (eq n650 n651)) (
          ld Try.prog h524 50 (nx h518) (off 0 2) fun v767 =>
          ld Try.prog h524 67 (nx h522) 0 fun v768 =>
          bls Try.prog h524 50 1 [(0, v768)] fun v769 h525 =>
          app Try.prog h525 50 50 v767 v769 fun v770 h526 =>
          st Try.prog h526 50 (nx h518) (off 0 2) v770 fun h527 =>
          asI .i64 (gv ws107 0) fun n652 =>
          out .normal [(.int .i64 (add .i64 n652 1))] h527) (
          asI .i64 (gv ws107 0) fun n653 =>
          out .normal [(.int .i64 (add .i64 n653 1))] h524)) (
        asI .i64 (gv ws107 0) fun n654 =>
        out .normal [(.int .i64 (add .i64 n654 1))] h524))) (
    out (.exit 4) [gv ws107 0] h522)

noncomputable def f16_l56 (_rec : Rec) (_k : Nat) (n2 : Int) (ws106 : List Value) (h518 : H) (v780 : Value) (n660 : Int) (ws109 : List Value) (h533 : H) : Option (Ex × List Value × H) :=
  asI .i64 (gv ws109 0) fun n661 =>
  ifB (lt n661 n660) (
    asK (gv ws109 0) fun n662 =>
    six v780 n662 4 fun b86 b87 =>
    ld Try.prog h533 67 b86 b87 fun v781 =>
    al h533 67 [(.int .i64 0), (.int .i64 0), (.int .i64 0), (.int .i64 0)] fun h534 =>
    st Try.prog h534 67 (nx h533) 0 v781 fun h535 =>
    asK (gv ws109 0) fun n663 =>
    nn n663 (
      ifB (eq (and .i64 (shr .i64 n2 n663) 1) 1) (
        asI .i64 (gv ws109 0) fun n664 =>
        asI .i64 (gv ws106 1) fun n665 =>
        ifB (not (eq n664 n665)) (
          ld Try.prog h535 50 (nx h518) (off 0 2) fun v782 =>
          ld Try.prog h535 67 (nx h533) 0 fun v783 =>
          bls Try.prog h535 50 1 [(0, v783)] fun v784 h536 =>
          app Try.prog h536 50 50 v782 v784 fun v785 h537 =>
          st Try.prog h537 50 (nx h518) (off 0 2) v785 fun h538 =>
          asI .i64 (gv ws109 0) fun n666 =>
          out .normal [(.int .i64 (add .i64 n666 1))] h538) (
          asI .i64 (gv ws109 0) fun n667 =>
          out .normal [(.int .i64 (add .i64 n667 1))] h535)) (
        asI .i64 (gv ws109 0) fun n668 =>
        out .normal [(.int .i64 (add .i64 n668 1))] h535))) (
    out (.exit 4) [gv ws109 0] h533)

noncomputable def f16_l54 (rec : Rec) (k : Nat) (h0 : H) (n2 : Int) (ws106 : List Value) (h518 : H) : Option (Ex × List Value × H) :=
  ld Try.prog h518 45 (nx h0) (off 0 2) fun v759 =>
  len v759 fun n639 =>
  asI .i64 (gv ws106 1) fun n640 =>
  ifB (lt n640 n639) (
    asI .i64 (gv ws106 1) fun n641 =>
    ifB (le 0 n641) (
      asK (gv ws106 1) fun n642 =>
      nn n642 (
        ifB (eq (and .i64 (shr .i64 n2 n642) 1) 0) (
          asI .i64 (gv ws106 1) fun n643 =>
          out .normal [gv ws106 0, (.int .i64 (add .i64 n643 1))] h518) (
          ld Try.prog h518 3 (nx h0) 0 fun v760 =>
          asI .i64 v760 fun n644 =>
          ld Try.prog h518 3 (nx h0) (off 0 1) fun v761 =>
          asI .i64 v761 fun n645 =>
          bld Try.prog 52 [(0, (.int .i64 n644)), (1, (.int .i64 n645))] fun v762 =>
          al h518 52 [(.int .i64 0), (.int .i64 0), (.slice none 0 0)] fun h519 =>
          st Try.prog h519 52 (nx h518) 0 v762 fun h520 =>
          ld Try.prog h520 47 (nx h0) 0 fun v763 =>
          calls rec h520 37 [v763] fun v764 h521 =>
          fld Try.prog 52 v764 2 fun v765 =>
          len v765 fun n646 =>
          lp k (f16_l55 rec k n2 ws106 h518 v765 n646) [(.int .i64 0)] h521 fun e53 _ h528 =>
          onE e53 4 (
            ld Try.prog h528 52 (nx h518) 0 fun v771 =>
            calls rec h528 47 [v771] fun v772 h529 =>
            ext v772 0 fun _ =>
            ext v772 1 fun v774 =>
            asI .i64 v774 fun n655 =>
            asI .i64 (gv ws106 1) fun n656 =>
            eqv Try.prog 4 (.bool (eq n655 0)) (.bool (le 0 n656)) fun q90 =>
            ifB (not q90) (
              out .ret [(.bool false), gv ws106 1] h529) (
              asI .i64 (gv ws106 1) fun n657 =>
              out .normal [gv ws106 0, (.int .i64 (add .i64 n657 1))] h529)) (
            none)))) (
      ld Try.prog h518 3 (nx h0) 0 fun v775 =>
      asI .i64 v775 fun n658 =>
      ld Try.prog h518 3 (nx h0) (off 0 1) fun v776 =>
      asI .i64 v776 fun n659 =>
      bld Try.prog 52 [(0, (.int .i64 n658)), (1, (.int .i64 n659))] fun v777 =>
      al h518 52 [(.int .i64 0), (.int .i64 0), (.slice none 0 0)] fun h530 =>
      st Try.prog h530 52 (nx h518) 0 v777 fun h531 =>
      ld Try.prog h531 47 (nx h0) 0 fun v778 =>
      calls rec h531 37 [v778] fun v779 h532 =>
      fld Try.prog 52 v779 2 fun v780 =>
      len v780 fun n660 =>
      lp k (f16_l56 rec k n2 ws106 h518 v780 n660) [(.int .i64 0)] h532 fun e54 _ h539 =>
      onE e54 4 (
        ld Try.prog h539 52 (nx h518) 0 fun v786 =>
        calls rec h539 47 [v786] fun v787 h540 =>
        ext v787 0 fun _ =>
        ext v787 1 fun v789 =>
        asI .i64 v789 fun n669 =>
        asI .i64 (gv ws106 1) fun n670 =>
        eqv Try.prog 4 (.bool (eq n669 0)) (.bool (le 0 n670)) fun q91 =>
        ifB (not q91) (
          out .ret [(.bool false), gv ws106 1] h540) (
          asI .i64 (gv ws106 1) fun n671 =>
          out .normal [gv ws106 0, (.int .i64 (add .i64 n671 1))] h540)) (
        none))) (
    out (.exit 2) [gv ws106 0, gv ws106 1] h518)

noncomputable def f16_l58 (_rec : Rec) (_k : Nat) (n2 : Int) (ws112 : List Value) (h546 : H) (v804 : Value) (n681 : Int) (ws113 : List Value) (h550 : H) : Option (Ex × List Value × H) :=
  asI .i64 (gv ws113 0) fun n682 =>
  ifB (lt n682 n681) (
    asK (gv ws113 0) fun n683 =>
    six v804 n683 4 fun b88 b89 =>
    ld Try.prog h550 67 b88 b89 fun v805 =>
    al h550 67 [(.int .i64 0), (.int .i64 0), (.int .i64 0), (.int .i64 0)] fun h551 =>
    st Try.prog h551 67 (nx h550) 0 v805 fun h552 =>
    asK (gv ws113 0) fun n684 =>
    nn n684 (
      ifB (eq (and .i64 (shr .i64 n2 n684) 1) 1) (
        asI .i64 (gv ws113 0) fun n685 =>
        asI .i64 (gv ws112 1) fun n686 =>
        ifB (not (eq n685 n686)) (
          ld Try.prog h552 50 (nx h546) (off 0 2) fun v806 =>
          ld Try.prog h552 67 (nx h550) 0 fun v807 =>
          bls Try.prog h552 50 1 [(0, v807)] fun v808 h553 =>
          app Try.prog h553 50 50 v806 v808 fun v809 h554 =>
          st Try.prog h554 50 (nx h546) (off 0 2) v809 fun h555 =>
          asI .i64 (gv ws113 0) fun n687 =>
          out .normal [(.int .i64 (add .i64 n687 1))] h555) (
          asI .i64 (gv ws113 0) fun n688 =>
          out .normal [(.int .i64 (add .i64 n688 1))] h552)) (
        asI .i64 (gv ws113 0) fun n689 =>
        out .normal [(.int .i64 (add .i64 n689 1))] h552))) (
    out (.exit 4) [gv ws113 0] h550)

noncomputable def f16_l59 (_rec : Rec) (_k : Nat) (n2 : Int) (ws112 : List Value) (h546 : H) (v819 : Value) (n695 : Int) (ws115 : List Value) (h561 : H) : Option (Ex × List Value × H) :=
  asI .i64 (gv ws115 0) fun n696 =>
  ifB (lt n696 n695) (
    asK (gv ws115 0) fun n697 =>
    six v819 n697 4 fun b90 b91 =>
    ld Try.prog h561 67 b90 b91 fun v820 =>
    al h561 67 [(.int .i64 0), (.int .i64 0), (.int .i64 0), (.int .i64 0)] fun h562 =>
    st Try.prog h562 67 (nx h561) 0 v820 fun h563 =>
    asK (gv ws115 0) fun n698 =>
    nn n698 (
      ifB (eq (and .i64 (shr .i64 n2 n698) 1) 1) (
        asI .i64 (gv ws115 0) fun n699 =>
        asI .i64 (gv ws112 1) fun n700 =>
        ifB (not (eq n699 n700)) (
          ld Try.prog h563 50 (nx h546) (off 0 2) fun v821 =>
          ld Try.prog h563 67 (nx h561) 0 fun v822 =>
          bls Try.prog h563 50 1 [(0, v822)] fun v823 h564 =>
          app Try.prog h564 50 50 v821 v823 fun v824 h565 =>
          st Try.prog h565 50 (nx h546) (off 0 2) v824 fun h566 =>
          asI .i64 (gv ws115 0) fun n701 =>
          out .normal [(.int .i64 (add .i64 n701 1))] h566) (
          asI .i64 (gv ws115 0) fun n702 =>
          out .normal [(.int .i64 (add .i64 n702 1))] h563)) (
        asI .i64 (gv ws115 0) fun n703 =>
        out .normal [(.int .i64 (add .i64 n703 1))] h563))) (
    out (.exit 4) [gv ws115 0] h561)

noncomputable def f16_l57 (rec : Rec) (k : Nat) (h0 : H) (n2 : Int) (ws112 : List Value) (h546 : H) : Option (Ex × List Value × H) :=
  ld Try.prog h546 45 (nx h0) (off 0 2) fun v798 =>
  len v798 fun n674 =>
  asI .i64 (gv ws112 1) fun n675 =>
  ifB (lt n675 n674) (
    asI .i64 (gv ws112 1) fun n676 =>
    ifB (le 0 n676) (
      asK (gv ws112 1) fun n677 =>
      nn n677 (
        ifB (eq (and .i64 (shr .i64 n2 n677) 1) 0) (
          asI .i64 (gv ws112 1) fun n678 =>
          out .normal [gv ws112 0, (.int .i64 (add .i64 n678 1))] h546) (
          ld Try.prog h546 3 (nx h0) 0 fun v799 =>
          asI .i64 v799 fun n679 =>
          ld Try.prog h546 3 (nx h0) (off 0 1) fun v800 =>
          asI .i64 v800 fun n680 =>
          bld Try.prog 52 [(0, (.int .i64 n679)), (1, (.int .i64 n680))] fun v801 =>
          al h546 52 [(.int .i64 0), (.int .i64 0), (.slice none 0 0)] fun h547 =>
          st Try.prog h547 52 (nx h546) 0 v801 fun h548 =>
          ld Try.prog h548 47 (nx h0) 0 fun v802 =>
          calls rec h548 37 [v802] fun v803 h549 =>
          fld Try.prog 52 v803 2 fun v804 =>
          len v804 fun n681 =>
          lp k (f16_l58 rec k n2 ws112 h546 v804 n681) [(.int .i64 0)] h549 fun e56 _ h556 =>
          onE e56 4 (
            ld Try.prog h556 52 (nx h546) 0 fun v810 =>
            calls rec h556 47 [v810] fun v811 h557 =>
            ext v811 0 fun _ =>
            ext v811 1 fun v813 =>
            asI .i64 v813 fun n690 =>
            asI .i64 (gv ws112 1) fun n691 =>
            eqv Try.prog 4 (.bool (eq n690 0)) (.bool (le 0 n691)) fun q95 =>
            ifB (not q95) (
              out .ret [(.bool false), gv ws112 1] h557) (
              asI .i64 (gv ws112 1) fun n692 =>
              out .normal [gv ws112 0, (.int .i64 (add .i64 n692 1))] h557)) (
            none)))) (
      ld Try.prog h546 3 (nx h0) 0 fun v814 =>
      asI .i64 v814 fun n693 =>
      ld Try.prog h546 3 (nx h0) (off 0 1) fun v815 =>
      asI .i64 v815 fun n694 =>
      bld Try.prog 52 [(0, (.int .i64 n693)), (1, (.int .i64 n694))] fun v816 =>
      al h546 52 [(.int .i64 0), (.int .i64 0), (.slice none 0 0)] fun h558 =>
      st Try.prog h558 52 (nx h546) 0 v816 fun h559 =>
      ld Try.prog h559 47 (nx h0) 0 fun v817 =>
      calls rec h559 37 [v817] fun v818 h560 =>
      fld Try.prog 52 v818 2 fun v819 =>
      len v819 fun n695 =>
      lp k (f16_l59 rec k n2 ws112 h546 v819 n695) [(.int .i64 0)] h560 fun e57 _ h567 =>
      onE e57 4 (
        ld Try.prog h567 52 (nx h546) 0 fun v825 =>
        calls rec h567 47 [v825] fun v826 h568 =>
        ext v826 0 fun _ =>
        ext v826 1 fun v828 =>
        asI .i64 v828 fun n704 =>
        asI .i64 (gv ws112 1) fun n705 =>
        eqv Try.prog 4 (.bool (eq n704 0)) (.bool (le 0 n705)) fun q96 =>
        ifB (not q96) (
          out .ret [(.bool false), gv ws112 1] h568) (
          asI .i64 (gv ws112 1) fun n706 =>
          out .normal [gv ws112 0, (.int .i64 (add .i64 n706 1))] h568)) (
        none))) (
    out (.exit 2) [gv ws112 0, gv ws112 1] h546)

noncomputable def f16_l61 (_rec : Rec) (_k : Nat) (n2 : Int) (ws118 : List Value) (h577 : H) (v850 : Value) (n719 : Int) (ws119 : List Value) (h581 : H) : Option (Ex × List Value × H) :=
  asI .i64 (gv ws119 0) fun n720 =>
  ifB (lt n720 n719) (
    asK (gv ws119 0) fun n721 =>
    six v850 n721 4 fun b92 b93 =>
    ld Try.prog h581 67 b92 b93 fun v851 =>
    al h581 67 [(.int .i64 0), (.int .i64 0), (.int .i64 0), (.int .i64 0)] fun h582 =>
    st Try.prog h582 67 (nx h581) 0 v851 fun h583 =>
    asK (gv ws119 0) fun n722 =>
    nn n722 (
      ifB (eq (and .i64 (shr .i64 n2 n722) 1) 1) (
        asI .i64 (gv ws119 0) fun n723 =>
        asI .i64 (gv ws118 1) fun n724 =>
        ifB (not (eq n723 n724)) (
          ld Try.prog h583 50 (nx h577) (off 0 2) fun v852 =>
          ld Try.prog h583 67 (nx h581) 0 fun v853 =>
          bls Try.prog h583 50 1 [(0, v853)] fun v854 h584 =>
          app Try.prog h584 50 50 v852 v854 fun v855 h585 =>
          st Try.prog h585 50 (nx h577) (off 0 2) v855 fun h586 =>
          asI .i64 (gv ws119 0) fun n725 =>
          out .normal [(.int .i64 (add .i64 n725 1))] h586) (
          asI .i64 (gv ws119 0) fun n726 =>
          out .normal [(.int .i64 (add .i64 n726 1))] h583)) (
        asI .i64 (gv ws119 0) fun n727 =>
        out .normal [(.int .i64 (add .i64 n727 1))] h583))) (
    out (.exit 4) [gv ws119 0] h581)

noncomputable def f16_l62 (_rec : Rec) (_k : Nat) (n2 : Int) (ws118 : List Value) (h577 : H) (v865 : Value) (n733 : Int) (ws121 : List Value) (h592 : H) : Option (Ex × List Value × H) :=
  asI .i64 (gv ws121 0) fun n734 =>
  ifB (lt n734 n733) (
    asK (gv ws121 0) fun n735 =>
    six v865 n735 4 fun b94 b95 =>
    ld Try.prog h592 67 b94 b95 fun v866 =>
    al h592 67 [(.int .i64 0), (.int .i64 0), (.int .i64 0), (.int .i64 0)] fun h593 =>
    st Try.prog h593 67 (nx h592) 0 v866 fun h594 =>
    asK (gv ws121 0) fun n736 =>
    nn n736 (
      ifB (eq (and .i64 (shr .i64 n2 n736) 1) 1) (
        asI .i64 (gv ws121 0) fun n737 =>
        asI .i64 (gv ws118 1) fun n738 =>
        ifB (not (eq n737 n738)) (
          ld Try.prog h594 50 (nx h577) (off 0 2) fun v867 =>
          ld Try.prog h594 67 (nx h592) 0 fun v868 =>
          bls Try.prog h594 50 1 [(0, v868)] fun v869 h595 =>
          app Try.prog h595 50 50 v867 v869 fun v870 h596 =>
          st Try.prog h596 50 (nx h577) (off 0 2) v870 fun h597 =>
          asI .i64 (gv ws121 0) fun n739 =>
          out .normal [(.int .i64 (add .i64 n739 1))] h597) (
          asI .i64 (gv ws121 0) fun n740 =>
          out .normal [(.int .i64 (add .i64 n740 1))] h594)) (
        asI .i64 (gv ws121 0) fun n741 =>
        out .normal [(.int .i64 (add .i64 n741 1))] h594))) (
    out (.exit 4) [gv ws121 0] h592)

noncomputable def f16_l60 (rec : Rec) (k : Nat) (h0 : H) (n2 : Int) (ws118 : List Value) (h577 : H) : Option (Ex × List Value × H) :=
  ld Try.prog h577 45 (nx h0) (off 0 2) fun v844 =>
  len v844 fun n712 =>
  asI .i64 (gv ws118 1) fun n713 =>
  ifB (lt n713 n712) (
    asI .i64 (gv ws118 1) fun n714 =>
    ifB (le 0 n714) (
      asK (gv ws118 1) fun n715 =>
      nn n715 (
        ifB (eq (and .i64 (shr .i64 n2 n715) 1) 0) (
          asI .i64 (gv ws118 1) fun n716 =>
          out .normal [gv ws118 0, (.int .i64 (add .i64 n716 1))] h577) (
          ld Try.prog h577 3 (nx h0) 0 fun v845 =>
          asI .i64 v845 fun n717 =>
          ld Try.prog h577 3 (nx h0) (off 0 1) fun v846 =>
          asI .i64 v846 fun n718 =>
          bld Try.prog 52 [(0, (.int .i64 n717)), (1, (.int .i64 n718))] fun v847 =>
          al h577 52 [(.int .i64 0), (.int .i64 0), (.slice none 0 0)] fun h578 =>
          st Try.prog h578 52 (nx h577) 0 v847 fun h579 =>
          ld Try.prog h579 47 (nx h0) 0 fun v848 =>
          calls rec h579 37 [v848] fun v849 h580 =>
          fld Try.prog 52 v849 2 fun v850 =>
          len v850 fun n719 =>
          lp k (f16_l61 rec k n2 ws118 h577 v850 n719) [(.int .i64 0)] h580 fun e59 _ h587 =>
          onE e59 4 (
            ld Try.prog h587 52 (nx h577) 0 fun v856 =>
            calls rec h587 47 [v856] fun v857 h588 =>
            ext v857 0 fun _ =>
            ext v857 1 fun v859 =>
            asI .i64 v859 fun n728 =>
            asI .i64 (gv ws118 1) fun n729 =>
            eqv Try.prog 4 (.bool (eq n728 0)) (.bool (le 0 n729)) fun q100 =>
            ifB (not q100) (
              out .ret [(.bool false), gv ws118 1] h588) (
              asI .i64 (gv ws118 1) fun n730 =>
              out .normal [gv ws118 0, (.int .i64 (add .i64 n730 1))] h588)) (
            none)))) (
      ld Try.prog h577 3 (nx h0) 0 fun v860 =>
      asI .i64 v860 fun n731 =>
      ld Try.prog h577 3 (nx h0) (off 0 1) fun v861 =>
      asI .i64 v861 fun n732 =>
      bld Try.prog 52 [(0, (.int .i64 n731)), (1, (.int .i64 n732))] fun v862 =>
      al h577 52 [(.int .i64 0), (.int .i64 0), (.slice none 0 0)] fun h589 =>
      st Try.prog h589 52 (nx h577) 0 v862 fun h590 =>
      ld Try.prog h590 47 (nx h0) 0 fun v863 =>
      calls rec h590 37 [v863] fun v864 h591 =>
      fld Try.prog 52 v864 2 fun v865 =>
      len v865 fun n733 =>
      lp k (f16_l62 rec k n2 ws118 h577 v865 n733) [(.int .i64 0)] h591 fun e60 _ h598 =>
      onE e60 4 (
        ld Try.prog h598 52 (nx h577) 0 fun v871 =>
        calls rec h598 47 [v871] fun v872 h599 =>
        ext v872 0 fun _ =>
        ext v872 1 fun v874 =>
        asI .i64 v874 fun n742 =>
        asI .i64 (gv ws118 1) fun n743 =>
        eqv Try.prog 4 (.bool (eq n742 0)) (.bool (le 0 n743)) fun q101 =>
        ifB (not q101) (
          out .ret [(.bool false), gv ws118 1] h599) (
          asI .i64 (gv ws118 1) fun n744 =>
          out .normal [gv ws118 0, (.int .i64 (add .i64 n744 1))] h599)) (
        none))) (
    out (.exit 2) [gv ws118 0, gv ws118 1] h577)

noncomputable def f16_l64 (_rec : Rec) (_k : Nat) (n2 : Int) (ws124 : List Value) (h605 : H) (v889 : Value) (n754 : Int) (ws125 : List Value) (h609 : H) : Option (Ex × List Value × H) :=
  asI .i64 (gv ws125 0) fun n755 =>
  ifB (lt n755 n754) (
    asK (gv ws125 0) fun n756 =>
    six v889 n756 4 fun b96 b97 =>
    ld Try.prog h609 67 b96 b97 fun v890 =>
    al h609 67 [(.int .i64 0), (.int .i64 0), (.int .i64 0), (.int .i64 0)] fun h610 =>
    st Try.prog h610 67 (nx h609) 0 v890 fun h611 =>
    asK (gv ws125 0) fun n757 =>
    nn n757 (
      ifB (eq (and .i64 (shr .i64 n2 n757) 1) 1) (
        asI .i64 (gv ws125 0) fun n758 =>
        asI .i64 (gv ws124 1) fun n759 =>
        ifB (not (eq n758 n759)) (
          ld Try.prog h611 50 (nx h605) (off 0 2) fun v891 =>
          ld Try.prog h611 67 (nx h609) 0 fun v892 =>
          bls Try.prog h611 50 1 [(0, v892)] fun v893 h612 =>
          app Try.prog h612 50 50 v891 v893 fun v894 h613 =>
          st Try.prog h613 50 (nx h605) (off 0 2) v894 fun h614 =>
          asI .i64 (gv ws125 0) fun n760 =>
          out .normal [(.int .i64 (add .i64 n760 1))] h614) (
          asI .i64 (gv ws125 0) fun n761 =>
          out .normal [(.int .i64 (add .i64 n761 1))] h611)) (
        asI .i64 (gv ws125 0) fun n762 =>
        out .normal [(.int .i64 (add .i64 n762 1))] h611))) (
    out (.exit 4) [gv ws125 0] h609)

noncomputable def f16_l65 (_rec : Rec) (_k : Nat) (n2 : Int) (ws124 : List Value) (h605 : H) (v904 : Value) (n768 : Int) (ws127 : List Value) (h620 : H) : Option (Ex × List Value × H) :=
  asI .i64 (gv ws127 0) fun n769 =>
  ifB (lt n769 n768) (
    asK (gv ws127 0) fun n770 =>
    six v904 n770 4 fun b98 b99 =>
    ld Try.prog h620 67 b98 b99 fun v905 =>
    al h620 67 [(.int .i64 0), (.int .i64 0), (.int .i64 0), (.int .i64 0)] fun h621 =>
    st Try.prog h621 67 (nx h620) 0 v905 fun h622 =>
    asK (gv ws127 0) fun n771 =>
    nn n771 (
      ifB (eq (and .i64 (shr .i64 n2 n771) 1) 1) (
        asI .i64 (gv ws127 0) fun n772 =>
        asI .i64 (gv ws124 1) fun n773 =>
        ifB (not (eq n772 n773)) (
          ld Try.prog h622 50 (nx h605) (off 0 2) fun v906 =>
          ld Try.prog h622 67 (nx h620) 0 fun v907 =>
          bls Try.prog h622 50 1 [(0, v907)] fun v908 h623 =>
          app Try.prog h623 50 50 v906 v908 fun v909 h624 =>
          st Try.prog h624 50 (nx h605) (off 0 2) v909 fun h625 =>
          asI .i64 (gv ws127 0) fun n774 =>
          out .normal [(.int .i64 (add .i64 n774 1))] h625) (
          asI .i64 (gv ws127 0) fun n775 =>
          out .normal [(.int .i64 (add .i64 n775 1))] h622)) (
        asI .i64 (gv ws127 0) fun n776 =>
        out .normal [(.int .i64 (add .i64 n776 1))] h622))) (
    out (.exit 4) [gv ws127 0] h620)

noncomputable def f16_l63 (rec : Rec) (k : Nat) (h0 : H) (n2 : Int) (ws124 : List Value) (h605 : H) : Option (Ex × List Value × H) :=
  ld Try.prog h605 45 (nx h0) (off 0 2) fun v883 =>
  len v883 fun n747 =>
  asI .i64 (gv ws124 1) fun n748 =>
  ifB (lt n748 n747) (
    asI .i64 (gv ws124 1) fun n749 =>
    ifB (le 0 n749) (
      asK (gv ws124 1) fun n750 =>
      nn n750 (
        ifB (eq (and .i64 (shr .i64 n2 n750) 1) 0) (
          asI .i64 (gv ws124 1) fun n751 =>
          out .normal [gv ws124 0, (.int .i64 (add .i64 n751 1))] h605) (
          ld Try.prog h605 3 (nx h0) 0 fun v884 =>
          asI .i64 v884 fun n752 =>
          ld Try.prog h605 3 (nx h0) (off 0 1) fun v885 =>
          asI .i64 v885 fun n753 =>
          bld Try.prog 52 [(0, (.int .i64 n752)), (1, (.int .i64 n753))] fun v886 =>
          al h605 52 [(.int .i64 0), (.int .i64 0), (.slice none 0 0)] fun h606 =>
          st Try.prog h606 52 (nx h605) 0 v886 fun h607 =>
          ld Try.prog h607 47 (nx h0) 0 fun v887 =>
          calls rec h607 37 [v887] fun v888 h608 =>
          fld Try.prog 52 v888 2 fun v889 =>
          len v889 fun n754 =>
          lp k (f16_l64 rec k n2 ws124 h605 v889 n754) [(.int .i64 0)] h608 fun e62 _ h615 =>
          onE e62 4 (
            ld Try.prog h615 52 (nx h605) 0 fun v895 =>
            calls rec h615 47 [v895] fun v896 h616 =>
            ext v896 0 fun _ =>
            ext v896 1 fun v898 =>
            asI .i64 v898 fun n763 =>
            asI .i64 (gv ws124 1) fun n764 =>
            eqv Try.prog 4 (.bool (eq n763 0)) (.bool (le 0 n764)) fun q105 =>
            ifB (not q105) (
              out .ret [(.bool false), gv ws124 1] h616) (
              asI .i64 (gv ws124 1) fun n765 =>
              out .normal [gv ws124 0, (.int .i64 (add .i64 n765 1))] h616)) (
            none)))) (
      ld Try.prog h605 3 (nx h0) 0 fun v899 =>
      asI .i64 v899 fun n766 =>
      ld Try.prog h605 3 (nx h0) (off 0 1) fun v900 =>
      asI .i64 v900 fun n767 =>
      bld Try.prog 52 [(0, (.int .i64 n766)), (1, (.int .i64 n767))] fun v901 =>
      al h605 52 [(.int .i64 0), (.int .i64 0), (.slice none 0 0)] fun h617 =>
      st Try.prog h617 52 (nx h605) 0 v901 fun h618 =>
      ld Try.prog h618 47 (nx h0) 0 fun v902 =>
      calls rec h618 37 [v902] fun v903 h619 =>
      fld Try.prog 52 v903 2 fun v904 =>
      len v904 fun n768 =>
      lp k (f16_l65 rec k n2 ws124 h605 v904 n768) [(.int .i64 0)] h619 fun e63 _ h626 =>
      onE e63 4 (
        ld Try.prog h626 52 (nx h605) 0 fun v910 =>
        calls rec h626 47 [v910] fun v911 h627 =>
        ext v911 0 fun _ =>
        ext v911 1 fun v913 =>
        asI .i64 v913 fun n777 =>
        asI .i64 (gv ws124 1) fun n778 =>
        eqv Try.prog 4 (.bool (eq n777 0)) (.bool (le 0 n778)) fun q106 =>
        ifB (not q106) (
          out .ret [(.bool false), gv ws124 1] h627) (
          asI .i64 (gv ws124 1) fun n779 =>
          out .normal [gv ws124 0, (.int .i64 (add .i64 n779 1))] h627)) (
        none))) (
    out (.exit 2) [gv ws124 0, gv ws124 1] h605)

noncomputable def f16_l66 (_rec : Rec) (_k : Nat) (n0 : Int) (h0 : H) (v915 : Value) (n780 : Int) (ws130 : List Value) (h631 : H) : Option (Ex × List Value × H) :=
  asI .i64 (gv ws130 0) fun n781 =>
  ifB (lt n781 n780) (
    asK (gv ws130 0) fun n782 =>
    six v915 n782 1 fun b100 b101 =>
    ld Try.prog h631 3 b100 b101 fun v916 =>
    asI .i64 v916 fun n783 =>
    ld Try.prog h631 3 (nx h0) 0 fun v917 =>
    asI .i64 v917 fun n784 =>
    nz (wr .u64 n784) (
      ld Try.prog h631 3 (nx h0) 0 fun v918 =>
      asI .i64 v918 fun n785 =>
      nz n785 (
        asK (gv ws130 0) fun n786 =>
        six v915 n786 1 fun b102 b103 =>
        st Try.prog h631 3 b102 b103 (.int .i64 (rem .i64 (add .i64 n783 (wr .i64 (rem .u64 (wr .u64 n0) (wr .u64 n784)))) n785)) fun h632 =>
        asI .i64 (gv ws130 0) fun n787 =>
        out .normal [(.int .i64 (add .i64 n787 1))] h632))) (
    out (.exit 0) [gv ws130 0] h631)

noncomputable def f16_l68 (_rec : Rec) (_k : Nat) (n2 : Int) (ws132 : List Value) (h642 : H) (v944 : Value) (n801 : Int) (ws133 : List Value) (h646 : H) : Option (Ex × List Value × H) :=
  asI .i64 (gv ws133 0) fun n802 =>
  ifB (lt n802 n801) (
    asK (gv ws133 0) fun n803 =>
    six v944 n803 4 fun b104 b105 =>
    ld Try.prog h646 67 b104 b105 fun v945 =>
    al h646 67 [(.int .i64 0), (.int .i64 0), (.int .i64 0), (.int .i64 0)] fun h647 =>
    st Try.prog h647 67 (nx h646) 0 v945 fun h648 =>
    asK (gv ws133 0) fun n804 =>
    nn n804 (
      ifB (eq (and .i64 (shr .i64 n2 n804) 1) 1) (
        asI .i64 (gv ws133 0) fun n805 =>
        asI .i64 (gv ws132 1) fun n806 =>
        ifB (not (eq n805 n806)) (
          ld Try.prog h648 50 (nx h642) (off 0 2) fun v946 =>
          ld Try.prog h648 67 (nx h646) 0 fun v947 =>
          bls Try.prog h648 50 1 [(0, v947)] fun v948 h649 =>
          app Try.prog h649 50 50 v946 v948 fun v949 h650 =>
          st Try.prog h650 50 (nx h642) (off 0 2) v949 fun h651 =>
          asI .i64 (gv ws133 0) fun n807 =>
          out .normal [(.int .i64 (add .i64 n807 1))] h651) (
          asI .i64 (gv ws133 0) fun n808 =>
          out .normal [(.int .i64 (add .i64 n808 1))] h648)) (
        asI .i64 (gv ws133 0) fun n809 =>
        out .normal [(.int .i64 (add .i64 n809 1))] h648))) (
    out (.exit 4) [gv ws133 0] h646)

noncomputable def f16_l69 (_rec : Rec) (_k : Nat) (n2 : Int) (ws132 : List Value) (h642 : H) (v959 : Value) (n815 : Int) (ws135 : List Value) (h657 : H) : Option (Ex × List Value × H) :=
  asI .i64 (gv ws135 0) fun n816 =>
  ifB (lt n816 n815) (
    asK (gv ws135 0) fun n817 =>
    six v959 n817 4 fun b106 b107 =>
    ld Try.prog h657 67 b106 b107 fun v960 =>
    al h657 67 [(.int .i64 0), (.int .i64 0), (.int .i64 0), (.int .i64 0)] fun h658 =>
    st Try.prog h658 67 (nx h657) 0 v960 fun h659 =>
    asK (gv ws135 0) fun n818 =>
    nn n818 (
      ifB (eq (and .i64 (shr .i64 n2 n818) 1) 1) (
        asI .i64 (gv ws135 0) fun n819 =>
        asI .i64 (gv ws132 1) fun n820 =>
        ifB (not (eq n819 n820)) (
          ld Try.prog h659 50 (nx h642) (off 0 2) fun v961 =>
          ld Try.prog h659 67 (nx h657) 0 fun v962 =>
          bls Try.prog h659 50 1 [(0, v962)] fun v963 h660 =>
          app Try.prog h660 50 50 v961 v963 fun v964 h661 =>
          st Try.prog h661 50 (nx h642) (off 0 2) v964 fun h662 =>
          asI .i64 (gv ws135 0) fun n821 =>
          out .normal [(.int .i64 (add .i64 n821 1))] h662) (
          asI .i64 (gv ws135 0) fun n822 =>
          out .normal [(.int .i64 (add .i64 n822 1))] h659)) (
        asI .i64 (gv ws135 0) fun n823 =>
        out .normal [(.int .i64 (add .i64 n823 1))] h659))) (
    out (.exit 4) [gv ws135 0] h657)

noncomputable def f16_l67 (rec : Rec) (k : Nat) (h0 : H) (n2 : Int) (ws132 : List Value) (h642 : H) : Option (Ex × List Value × H) :=
  ld Try.prog h642 45 (nx h0) (off 0 2) fun v938 =>
  len v938 fun n794 =>
  asI .i64 (gv ws132 1) fun n795 =>
  ifB (lt n795 n794) (
    asI .i64 (gv ws132 1) fun n796 =>
    ifB (le 0 n796) (
      asK (gv ws132 1) fun n797 =>
      nn n797 (
        ifB (eq (and .i64 (shr .i64 n2 n797) 1) 0) (
          asI .i64 (gv ws132 1) fun n798 =>
          out .normal [gv ws132 0, (.int .i64 (add .i64 n798 1))] h642) (
          ld Try.prog h642 3 (nx h0) 0 fun v939 =>
          asI .i64 v939 fun n799 =>
          ld Try.prog h642 3 (nx h0) (off 0 1) fun v940 =>
          asI .i64 v940 fun n800 =>
          bld Try.prog 52 [(0, (.int .i64 n799)), (1, (.int .i64 n800))] fun v941 =>
          al h642 52 [(.int .i64 0), (.int .i64 0), (.slice none 0 0)] fun h643 =>
          st Try.prog h643 52 (nx h642) 0 v941 fun h644 =>
          ld Try.prog h644 47 (nx h0) 0 fun v942 =>
          calls rec h644 37 [v942] fun v943 h645 =>
          fld Try.prog 52 v943 2 fun v944 =>
          len v944 fun n801 =>
          lp k (f16_l68 rec k n2 ws132 h642 v944 n801) [(.int .i64 0)] h645 fun e66 _ h652 =>
          onE e66 4 (
            ld Try.prog h652 52 (nx h642) 0 fun v950 =>
            calls rec h652 47 [v950] fun v951 h653 =>
            ext v951 0 fun _ =>
            ext v951 1 fun v953 =>
            asI .i64 v953 fun n810 =>
            asI .i64 (gv ws132 1) fun n811 =>
            eqv Try.prog 4 (.bool (eq n810 0)) (.bool (le 0 n811)) fun q111 =>
            ifB (not q111) (
              out .ret [(.bool false), gv ws132 1] h653) (
              asI .i64 (gv ws132 1) fun n812 =>
              out .normal [gv ws132 0, (.int .i64 (add .i64 n812 1))] h653)) (
            none)))) (
      ld Try.prog h642 3 (nx h0) 0 fun v954 =>
      asI .i64 v954 fun n813 =>
      ld Try.prog h642 3 (nx h0) (off 0 1) fun v955 =>
      asI .i64 v955 fun n814 =>
      bld Try.prog 52 [(0, (.int .i64 n813)), (1, (.int .i64 n814))] fun v956 =>
      al h642 52 [(.int .i64 0), (.int .i64 0), (.slice none 0 0)] fun h654 =>
      st Try.prog h654 52 (nx h642) 0 v956 fun h655 =>
      ld Try.prog h655 47 (nx h0) 0 fun v957 =>
      calls rec h655 37 [v957] fun v958 h656 =>
      fld Try.prog 52 v958 2 fun v959 =>
      len v959 fun n815 =>
      lp k (f16_l69 rec k n2 ws132 h642 v959 n815) [(.int .i64 0)] h656 fun e67 _ h663 =>
      onE e67 4 (
        ld Try.prog h663 52 (nx h642) 0 fun v965 =>
        calls rec h663 47 [v965] fun v966 h664 =>
        ext v966 0 fun _ =>
        ext v966 1 fun v968 =>
        asI .i64 v968 fun n824 =>
        asI .i64 (gv ws132 1) fun n825 =>
        eqv Try.prog 4 (.bool (eq n824 0)) (.bool (le 0 n825)) fun q112 =>
        ifB (not q112) (
          out .ret [(.bool false), gv ws132 1] h664) (
          asI .i64 (gv ws132 1) fun n826 =>
          out .normal [gv ws132 0, (.int .i64 (add .i64 n826 1))] h664)) (
        none))) (
    out (.exit 2) [gv ws132 0, gv ws132 1] h642)

noncomputable def f16_l71 (_rec : Rec) (_k : Nat) (n2 : Int) (ws138 : List Value) (h670 : H) (v983 : Value) (n836 : Int) (ws139 : List Value) (h674 : H) : Option (Ex × List Value × H) :=
  asI .i64 (gv ws139 0) fun n837 =>
  ifB (lt n837 n836) (
    asK (gv ws139 0) fun n838 =>
    six v983 n838 4 fun b108 b109 =>
    ld Try.prog h674 67 b108 b109 fun v984 =>
    al h674 67 [(.int .i64 0), (.int .i64 0), (.int .i64 0), (.int .i64 0)] fun h675 =>
    st Try.prog h675 67 (nx h674) 0 v984 fun h676 =>
    asK (gv ws139 0) fun n839 =>
    nn n839 (
      ifB (eq (and .i64 (shr .i64 n2 n839) 1) 1) (
        asI .i64 (gv ws139 0) fun n840 =>
        asI .i64 (gv ws138 1) fun n841 =>
        ifB (not (eq n840 n841)) (
          ld Try.prog h676 50 (nx h670) (off 0 2) fun v985 =>
          ld Try.prog h676 67 (nx h674) 0 fun v986 =>
          bls Try.prog h676 50 1 [(0, v986)] fun v987 h677 =>
          app Try.prog h677 50 50 v985 v987 fun v988 h678 =>
          st Try.prog h678 50 (nx h670) (off 0 2) v988 fun h679 =>
          asI .i64 (gv ws139 0) fun n842 =>
          out .normal [(.int .i64 (add .i64 n842 1))] h679) (
          asI .i64 (gv ws139 0) fun n843 =>
          out .normal [(.int .i64 (add .i64 n843 1))] h676)) (
        asI .i64 (gv ws139 0) fun n844 =>
        out .normal [(.int .i64 (add .i64 n844 1))] h676))) (
    out (.exit 4) [gv ws139 0] h674)

noncomputable def f16_l72 (_rec : Rec) (_k : Nat) (n2 : Int) (ws138 : List Value) (h670 : H) (v998 : Value) (n850 : Int) (ws141 : List Value) (h685 : H) : Option (Ex × List Value × H) :=
  asI .i64 (gv ws141 0) fun n851 =>
  ifB (lt n851 n850) (
    asK (gv ws141 0) fun n852 =>
    six v998 n852 4 fun b110 b111 =>
    ld Try.prog h685 67 b110 b111 fun v999 =>
    al h685 67 [(.int .i64 0), (.int .i64 0), (.int .i64 0), (.int .i64 0)] fun h686 =>
    st Try.prog h686 67 (nx h685) 0 v999 fun h687 =>
    asK (gv ws141 0) fun n853 =>
    nn n853 (
      ifB (eq (and .i64 (shr .i64 n2 n853) 1) 1) (
        asI .i64 (gv ws141 0) fun n854 =>
        asI .i64 (gv ws138 1) fun n855 =>
        ifB (not (eq n854 n855)) (
          ld Try.prog h687 50 (nx h670) (off 0 2) fun v1000 =>
          ld Try.prog h687 67 (nx h685) 0 fun v1001 =>
          bls Try.prog h687 50 1 [(0, v1001)] fun v1002 h688 =>
          app Try.prog h688 50 50 v1000 v1002 fun v1003 h689 =>
          st Try.prog h689 50 (nx h670) (off 0 2) v1003 fun h690 =>
          asI .i64 (gv ws141 0) fun n856 =>
          out .normal [(.int .i64 (add .i64 n856 1))] h690) (
          asI .i64 (gv ws141 0) fun n857 =>
          out .normal [(.int .i64 (add .i64 n857 1))] h687)) (
        asI .i64 (gv ws141 0) fun n858 =>
        out .normal [(.int .i64 (add .i64 n858 1))] h687))) (
    out (.exit 4) [gv ws141 0] h685)

noncomputable def f16_l70 (rec : Rec) (k : Nat) (h0 : H) (n2 : Int) (ws138 : List Value) (h670 : H) : Option (Ex × List Value × H) :=
  ld Try.prog h670 45 (nx h0) (off 0 2) fun v977 =>
  len v977 fun n829 =>
  asI .i64 (gv ws138 1) fun n830 =>
  ifB (lt n830 n829) (
    asI .i64 (gv ws138 1) fun n831 =>
    ifB (le 0 n831) (
      asK (gv ws138 1) fun n832 =>
      nn n832 (
        ifB (eq (and .i64 (shr .i64 n2 n832) 1) 0) (
          asI .i64 (gv ws138 1) fun n833 =>
          out .normal [gv ws138 0, (.int .i64 (add .i64 n833 1))] h670) (
          ld Try.prog h670 3 (nx h0) 0 fun v978 =>
          asI .i64 v978 fun n834 =>
          ld Try.prog h670 3 (nx h0) (off 0 1) fun v979 =>
          asI .i64 v979 fun n835 =>
          bld Try.prog 52 [(0, (.int .i64 n834)), (1, (.int .i64 n835))] fun v980 =>
          al h670 52 [(.int .i64 0), (.int .i64 0), (.slice none 0 0)] fun h671 =>
          st Try.prog h671 52 (nx h670) 0 v980 fun h672 =>
          ld Try.prog h672 47 (nx h0) 0 fun v981 =>
          calls rec h672 37 [v981] fun v982 h673 =>
          fld Try.prog 52 v982 2 fun v983 =>
          len v983 fun n836 =>
          lp k (f16_l71 rec k n2 ws138 h670 v983 n836) [(.int .i64 0)] h673 fun e69 _ h680 =>
          onE e69 4 (
            ld Try.prog h680 52 (nx h670) 0 fun v989 =>
            calls rec h680 47 [v989] fun v990 h681 =>
            ext v990 0 fun _ =>
            ext v990 1 fun v992 =>
            asI .i64 v992 fun n845 =>
            asI .i64 (gv ws138 1) fun n846 =>
            eqv Try.prog 4 (.bool (eq n845 0)) (.bool (le 0 n846)) fun q116 =>
            ifB (not q116) (
              out .ret [(.bool false), gv ws138 1] h681) (
              asI .i64 (gv ws138 1) fun n847 =>
              out .normal [gv ws138 0, (.int .i64 (add .i64 n847 1))] h681)) (
            none)))) (
      ld Try.prog h670 3 (nx h0) 0 fun v993 =>
      asI .i64 v993 fun n848 =>
      ld Try.prog h670 3 (nx h0) (off 0 1) fun v994 =>
      asI .i64 v994 fun n849 =>
      bld Try.prog 52 [(0, (.int .i64 n848)), (1, (.int .i64 n849))] fun v995 =>
      al h670 52 [(.int .i64 0), (.int .i64 0), (.slice none 0 0)] fun h682 =>
      st Try.prog h682 52 (nx h670) 0 v995 fun h683 =>
      ld Try.prog h683 47 (nx h0) 0 fun v996 =>
      calls rec h683 37 [v996] fun v997 h684 =>
      fld Try.prog 52 v997 2 fun v998 =>
      len v998 fun n850 =>
      lp k (f16_l72 rec k n2 ws138 h670 v998 n850) [(.int .i64 0)] h684 fun e70 _ h691 =>
      onE e70 4 (
        ld Try.prog h691 52 (nx h670) 0 fun v1004 =>
        calls rec h691 47 [v1004] fun v1005 h692 =>
        ext v1005 0 fun _ =>
        ext v1005 1 fun v1007 =>
        asI .i64 v1007 fun n859 =>
        asI .i64 (gv ws138 1) fun n860 =>
        eqv Try.prog 4 (.bool (eq n859 0)) (.bool (le 0 n860)) fun q117 =>
        ifB (not q117) (
          out .ret [(.bool false), gv ws138 1] h692) (
          asI .i64 (gv ws138 1) fun n861 =>
          out .normal [gv ws138 0, (.int .i64 (add .i64 n861 1))] h692)) (
        none))) (
    out (.exit 2) [gv ws138 0, gv ws138 1] h670)

noncomputable def f16_l74 (_rec : Rec) (_k : Nat) (n2 : Int) (ws144 : List Value) (h701 : H) (v1029 : Value) (n874 : Int) (ws145 : List Value) (h705 : H) : Option (Ex × List Value × H) :=
  asI .i64 (gv ws145 0) fun n875 =>
  ifB (lt n875 n874) (
    asK (gv ws145 0) fun n876 =>
    six v1029 n876 4 fun b112 b113 =>
    ld Try.prog h705 67 b112 b113 fun v1030 =>
    al h705 67 [(.int .i64 0), (.int .i64 0), (.int .i64 0), (.int .i64 0)] fun h706 =>
    st Try.prog h706 67 (nx h705) 0 v1030 fun h707 =>
    asK (gv ws145 0) fun n877 =>
    nn n877 (
      ifB (eq (and .i64 (shr .i64 n2 n877) 1) 1) (
        asI .i64 (gv ws145 0) fun n878 =>
        asI .i64 (gv ws144 1) fun n879 =>
        ifB (not (eq n878 n879)) (
          ld Try.prog h707 50 (nx h701) (off 0 2) fun v1031 =>
          ld Try.prog h707 67 (nx h705) 0 fun v1032 =>
          bls Try.prog h707 50 1 [(0, v1032)] fun v1033 h708 =>
          app Try.prog h708 50 50 v1031 v1033 fun v1034 h709 =>
          st Try.prog h709 50 (nx h701) (off 0 2) v1034 fun h710 =>
          asI .i64 (gv ws145 0) fun n880 =>
          out .normal [(.int .i64 (add .i64 n880 1))] h710) (
          asI .i64 (gv ws145 0) fun n881 =>
          out .normal [(.int .i64 (add .i64 n881 1))] h707)) (
        asI .i64 (gv ws145 0) fun n882 =>
        out .normal [(.int .i64 (add .i64 n882 1))] h707))) (
    out (.exit 4) [gv ws145 0] h705)

noncomputable def f16_l75 (_rec : Rec) (_k : Nat) (n2 : Int) (ws144 : List Value) (h701 : H) (v1044 : Value) (n888 : Int) (ws147 : List Value) (h716 : H) : Option (Ex × List Value × H) :=
  asI .i64 (gv ws147 0) fun n889 =>
  ifB (lt n889 n888) (
    asK (gv ws147 0) fun n890 =>
    six v1044 n890 4 fun b114 b115 =>
    ld Try.prog h716 67 b114 b115 fun v1045 =>
    al h716 67 [(.int .i64 0), (.int .i64 0), (.int .i64 0), (.int .i64 0)] fun h717 =>
    st Try.prog h717 67 (nx h716) 0 v1045 fun h718 =>
    asK (gv ws147 0) fun n891 =>
    nn n891 (
      ifB (eq (and .i64 (shr .i64 n2 n891) 1) 1) (
        asI .i64 (gv ws147 0) fun n892 =>
        asI .i64 (gv ws144 1) fun n893 =>
        ifB (not (eq n892 n893)) (
          ld Try.prog h718 50 (nx h701) (off 0 2) fun v1046 =>
          ld Try.prog h718 67 (nx h716) 0 fun v1047 =>
          bls Try.prog h718 50 1 [(0, v1047)] fun v1048 h719 =>
          app Try.prog h719 50 50 v1046 v1048 fun v1049 h720 =>
          st Try.prog h720 50 (nx h701) (off 0 2) v1049 fun h721 =>
          asI .i64 (gv ws147 0) fun n894 =>
          out .normal [(.int .i64 (add .i64 n894 1))] h721) (
          asI .i64 (gv ws147 0) fun n895 =>
          out .normal [(.int .i64 (add .i64 n895 1))] h718)) (
        asI .i64 (gv ws147 0) fun n896 =>
        out .normal [(.int .i64 (add .i64 n896 1))] h718))) (
    out (.exit 4) [gv ws147 0] h716)

noncomputable def f16_l73 (rec : Rec) (k : Nat) (h0 : H) (n2 : Int) (ws144 : List Value) (h701 : H) : Option (Ex × List Value × H) :=
  ld Try.prog h701 45 (nx h0) (off 0 2) fun v1023 =>
  len v1023 fun n867 =>
  asI .i64 (gv ws144 1) fun n868 =>
  ifB (lt n868 n867) (
    asI .i64 (gv ws144 1) fun n869 =>
    ifB (le 0 n869) (
      asK (gv ws144 1) fun n870 =>
      nn n870 (
        ifB (eq (and .i64 (shr .i64 n2 n870) 1) 0) (
          asI .i64 (gv ws144 1) fun n871 =>
          out .normal [gv ws144 0, (.int .i64 (add .i64 n871 1))] h701) (
          ld Try.prog h701 3 (nx h0) 0 fun v1024 =>
          asI .i64 v1024 fun n872 =>
          ld Try.prog h701 3 (nx h0) (off 0 1) fun v1025 =>
          asI .i64 v1025 fun n873 =>
          bld Try.prog 52 [(0, (.int .i64 n872)), (1, (.int .i64 n873))] fun v1026 =>
          al h701 52 [(.int .i64 0), (.int .i64 0), (.slice none 0 0)] fun h702 =>
          st Try.prog h702 52 (nx h701) 0 v1026 fun h703 =>
          ld Try.prog h703 47 (nx h0) 0 fun v1027 =>
          calls rec h703 37 [v1027] fun v1028 h704 =>
          fld Try.prog 52 v1028 2 fun v1029 =>
          len v1029 fun n874 =>
          lp k (f16_l74 rec k n2 ws144 h701 v1029 n874) [(.int .i64 0)] h704 fun e72 _ h711 =>
          onE e72 4 (
            ld Try.prog h711 52 (nx h701) 0 fun v1035 =>
            calls rec h711 47 [v1035] fun v1036 h712 =>
            ext v1036 0 fun _ =>
            ext v1036 1 fun v1038 =>
            asI .i64 v1038 fun n883 =>
            asI .i64 (gv ws144 1) fun n884 =>
            eqv Try.prog 4 (.bool (eq n883 0)) (.bool (le 0 n884)) fun q121 =>
            ifB (not q121) (
              out .ret [(.bool false), gv ws144 1] h712) (
              asI .i64 (gv ws144 1) fun n885 =>
              out .normal [gv ws144 0, (.int .i64 (add .i64 n885 1))] h712)) (
            none)))) (
      ld Try.prog h701 3 (nx h0) 0 fun v1039 =>
      asI .i64 v1039 fun n886 =>
      ld Try.prog h701 3 (nx h0) (off 0 1) fun v1040 =>
      asI .i64 v1040 fun n887 =>
      bld Try.prog 52 [(0, (.int .i64 n886)), (1, (.int .i64 n887))] fun v1041 =>
      al h701 52 [(.int .i64 0), (.int .i64 0), (.slice none 0 0)] fun h713 =>
      st Try.prog h713 52 (nx h701) 0 v1041 fun h714 =>
      ld Try.prog h714 47 (nx h0) 0 fun v1042 =>
      calls rec h714 37 [v1042] fun v1043 h715 =>
      fld Try.prog 52 v1043 2 fun v1044 =>
      len v1044 fun n888 =>
      lp k (f16_l75 rec k n2 ws144 h701 v1044 n888) [(.int .i64 0)] h715 fun e73 _ h722 =>
      onE e73 4 (
        ld Try.prog h722 52 (nx h701) 0 fun v1050 =>
        calls rec h722 47 [v1050] fun v1051 h723 =>
        ext v1051 0 fun _ =>
        ext v1051 1 fun v1053 =>
        asI .i64 v1053 fun n897 =>
        asI .i64 (gv ws144 1) fun n898 =>
        eqv Try.prog 4 (.bool (eq n897 0)) (.bool (le 0 n898)) fun q122 =>
        ifB (not q122) (
          out .ret [(.bool false), gv ws144 1] h723) (
          asI .i64 (gv ws144 1) fun n899 =>
          out .normal [gv ws144 0, (.int .i64 (add .i64 n899 1))] h723)) (
        none))) (
    out (.exit 2) [gv ws144 0, gv ws144 1] h701)

noncomputable def f16_l77 (_rec : Rec) (_k : Nat) (n2 : Int) (ws150 : List Value) (h729 : H) (v1068 : Value) (n909 : Int) (ws151 : List Value) (h733 : H) : Option (Ex × List Value × H) :=
  asI .i64 (gv ws151 0) fun n910 =>
  ifB (lt n910 n909) (
    asK (gv ws151 0) fun n911 =>
    six v1068 n911 4 fun b116 b117 =>
    ld Try.prog h733 67 b116 b117 fun v1069 =>
    al h733 67 [(.int .i64 0), (.int .i64 0), (.int .i64 0), (.int .i64 0)] fun h734 =>
    st Try.prog h734 67 (nx h733) 0 v1069 fun h735 =>
    asK (gv ws151 0) fun n912 =>
    nn n912 (
      ifB (eq (and .i64 (shr .i64 n2 n912) 1) 1) (
        asI .i64 (gv ws151 0) fun n913 =>
        asI .i64 (gv ws150 1) fun n914 =>
        ifB (not (eq n913 n914)) (
          ld Try.prog h735 50 (nx h729) (off 0 2) fun v1070 =>
          ld Try.prog h735 67 (nx h733) 0 fun v1071 =>
          bls Try.prog h735 50 1 [(0, v1071)] fun v1072 h736 =>
          app Try.prog h736 50 50 v1070 v1072 fun v1073 h737 =>
          st Try.prog h737 50 (nx h729) (off 0 2) v1073 fun h738 =>
          asI .i64 (gv ws151 0) fun n915 =>
          out .normal [(.int .i64 (add .i64 n915 1))] h738) (
          asI .i64 (gv ws151 0) fun n916 =>
          out .normal [(.int .i64 (add .i64 n916 1))] h735)) (
        asI .i64 (gv ws151 0) fun n917 =>
        out .normal [(.int .i64 (add .i64 n917 1))] h735))) (
    out (.exit 4) [gv ws151 0] h733)

noncomputable def f16_l78 (_rec : Rec) (_k : Nat) (n2 : Int) (ws150 : List Value) (h729 : H) (v1083 : Value) (n923 : Int) (ws153 : List Value) (h744 : H) : Option (Ex × List Value × H) :=
  asI .i64 (gv ws153 0) fun n924 =>
  ifB (lt n924 n923) (
    asK (gv ws153 0) fun n925 =>
    six v1083 n925 4 fun b118 b119 =>
    ld Try.prog h744 67 b118 b119 fun v1084 =>
    al h744 67 [(.int .i64 0), (.int .i64 0), (.int .i64 0), (.int .i64 0)] fun h745 =>
    st Try.prog h745 67 (nx h744) 0 v1084 fun h746 =>
    asK (gv ws153 0) fun n926 =>
    nn n926 (
      ifB (eq (and .i64 (shr .i64 n2 n926) 1) 1) (
        asI .i64 (gv ws153 0) fun n927 =>
        asI .i64 (gv ws150 1) fun n928 =>
        ifB (not (eq n927 n928)) (
          ld Try.prog h746 50 (nx h729) (off 0 2) fun v1085 =>
          ld Try.prog h746 67 (nx h744) 0 fun v1086 =>
          bls Try.prog h746 50 1 [(0, v1086)] fun v1087 h747 =>
          app Try.prog h747 50 50 v1085 v1087 fun v1088 h748 =>
          st Try.prog h748 50 (nx h729) (off 0 2) v1088 fun h749 =>
          asI .i64 (gv ws153 0) fun n929 =>
          out .normal [(.int .i64 (add .i64 n929 1))] h749) (
          asI .i64 (gv ws153 0) fun n930 =>
          out .normal [(.int .i64 (add .i64 n930 1))] h746)) (
        asI .i64 (gv ws153 0) fun n931 =>
        out .normal [(.int .i64 (add .i64 n931 1))] h746))) (
    out (.exit 4) [gv ws153 0] h744)

noncomputable def f16_l76 (rec : Rec) (k : Nat) (h0 : H) (n2 : Int) (ws150 : List Value) (h729 : H) : Option (Ex × List Value × H) :=
  ld Try.prog h729 45 (nx h0) (off 0 2) fun v1062 =>
  len v1062 fun n902 =>
  asI .i64 (gv ws150 1) fun n903 =>
  ifB (lt n903 n902) (
    asI .i64 (gv ws150 1) fun n904 =>
    ifB (le 0 n904) (
      asK (gv ws150 1) fun n905 =>
      nn n905 (
        ifB (eq (and .i64 (shr .i64 n2 n905) 1) 0) (
          asI .i64 (gv ws150 1) fun n906 =>
          out .normal [gv ws150 0, (.int .i64 (add .i64 n906 1))] h729) (
          ld Try.prog h729 3 (nx h0) 0 fun v1063 =>
          asI .i64 v1063 fun n907 =>
          ld Try.prog h729 3 (nx h0) (off 0 1) fun v1064 =>
          asI .i64 v1064 fun n908 =>
          bld Try.prog 52 [(0, (.int .i64 n907)), (1, (.int .i64 n908))] fun v1065 =>
          al h729 52 [(.int .i64 0), (.int .i64 0), (.slice none 0 0)] fun h730 =>
          st Try.prog h730 52 (nx h729) 0 v1065 fun h731 =>
          ld Try.prog h731 47 (nx h0) 0 fun v1066 =>
          calls rec h731 37 [v1066] fun v1067 h732 =>
          fld Try.prog 52 v1067 2 fun v1068 =>
          len v1068 fun n909 =>
          lp k (f16_l77 rec k n2 ws150 h729 v1068 n909) [(.int .i64 0)] h732 fun e75 _ h739 =>
          onE e75 4 (
            ld Try.prog h739 52 (nx h729) 0 fun v1074 =>
            calls rec h739 47 [v1074] fun v1075 h740 =>
            ext v1075 0 fun _ =>
            ext v1075 1 fun v1077 =>
            asI .i64 v1077 fun n918 =>
            asI .i64 (gv ws150 1) fun n919 =>
            eqv Try.prog 4 (.bool (eq n918 0)) (.bool (le 0 n919)) fun q126 =>
            ifB (not q126) (
              out .ret [(.bool false), gv ws150 1] h740) (
              asI .i64 (gv ws150 1) fun n920 =>
              out .normal [gv ws150 0, (.int .i64 (add .i64 n920 1))] h740)) (
            none)))) (
      ld Try.prog h729 3 (nx h0) 0 fun v1078 =>
      asI .i64 v1078 fun n921 =>
      ld Try.prog h729 3 (nx h0) (off 0 1) fun v1079 =>
      asI .i64 v1079 fun n922 =>
      bld Try.prog 52 [(0, (.int .i64 n921)), (1, (.int .i64 n922))] fun v1080 =>
      al h729 52 [(.int .i64 0), (.int .i64 0), (.slice none 0 0)] fun h741 =>
      st Try.prog h741 52 (nx h729) 0 v1080 fun h742 =>
      ld Try.prog h742 47 (nx h0) 0 fun v1081 =>
      calls rec h742 37 [v1081] fun v1082 h743 =>
      fld Try.prog 52 v1082 2 fun v1083 =>
      len v1083 fun n923 =>
      lp k (f16_l78 rec k n2 ws150 h729 v1083 n923) [(.int .i64 0)] h743 fun e76 _ h750 =>
      onE e76 4 (
        ld Try.prog h750 52 (nx h729) 0 fun v1089 =>
        calls rec h750 47 [v1089] fun v1090 h751 =>
        ext v1090 0 fun _ =>
        ext v1090 1 fun v1092 =>
        asI .i64 v1092 fun n932 =>
        asI .i64 (gv ws150 1) fun n933 =>
        eqv Try.prog 4 (.bool (eq n932 0)) (.bool (le 0 n933)) fun q127 =>
        ifB (not q127) (
          out .ret [(.bool false), gv ws150 1] h751) (
          asI .i64 (gv ws150 1) fun n934 =>
          out .normal [gv ws150 0, (.int .i64 (add .i64 n934 1))] h751)) (
        none))) (
    out (.exit 2) [gv ws150 0, gv ws150 1] h729)

noncomputable def f16_l79 (_rec : Rec) (_k : Nat) (n0 : Int) (h0 : H) (v1094 : Value) (n935 : Int) (ws156 : List Value) (h755 : H) : Option (Ex × List Value × H) :=
  asI .i64 (gv ws156 0) fun n936 =>
  ifB (lt n936 n935) (
    asK (gv ws156 0) fun n937 =>
    six v1094 n937 1 fun b120 b121 =>
    ld Try.prog h755 3 b120 b121 fun v1095 =>
    asI .i64 v1095 fun n938 =>
    ld Try.prog h755 3 (nx h0) 0 fun v1096 =>
    asI .i64 v1096 fun n939 =>
    nz (wr .u64 n939) (
      ld Try.prog h755 3 (nx h0) 0 fun v1097 =>
      asI .i64 v1097 fun n940 =>
      nz n940 (
        asK (gv ws156 0) fun n941 =>
        six v1094 n941 1 fun b122 b123 =>
        st Try.prog h755 3 b122 b123 (.int .i64 (rem .i64 (add .i64 n938 (wr .i64 (rem .u64 (wr .u64 n0) (wr .u64 n939)))) n940)) fun h756 =>
        asI .i64 (gv ws156 0) fun n942 =>
        out .normal [(.int .i64 (add .i64 n942 1))] h756))) (
    out (.exit 0) [gv ws156 0] h755)

noncomputable def f16_l81 (_rec : Rec) (_k : Nat) (n2 : Int) (ws158 : List Value) (h766 : H) (v1123 : Value) (n956 : Int) (ws159 : List Value) (h770 : H) : Option (Ex × List Value × H) :=
  asI .i64 (gv ws159 0) fun n957 =>
  ifB (lt n957 n956) (
    asK (gv ws159 0) fun n958 =>
    six v1123 n958 4 fun b124 b125 =>
    ld Try.prog h770 67 b124 b125 fun v1124 =>
    al h770 67 [(.int .i64 0), (.int .i64 0), (.int .i64 0), (.int .i64 0)] fun h771 =>
    st Try.prog h771 67 (nx h770) 0 v1124 fun h772 =>
    asK (gv ws159 0) fun n959 =>
    nn n959 (
      ifB (eq (and .i64 (shr .i64 n2 n959) 1) 1) (
        asI .i64 (gv ws159 0) fun n960 =>
        asI .i64 (gv ws158 1) fun n961 =>
        ifB (not (eq n960 n961)) (
          ld Try.prog h772 50 (nx h766) (off 0 2) fun v1125 =>
          ld Try.prog h772 67 (nx h770) 0 fun v1126 =>
          bls Try.prog h772 50 1 [(0, v1126)] fun v1127 h773 =>
          app Try.prog h773 50 50 v1125 v1127 fun v1128 h774 =>
          st Try.prog h774 50 (nx h766) (off 0 2) v1128 fun h775 =>
          asI .i64 (gv ws159 0) fun n962 =>
          out .normal [(.int .i64 (add .i64 n962 1))] h775) (
          asI .i64 (gv ws159 0) fun n963 =>
          out .normal [(.int .i64 (add .i64 n963 1))] h772)) (
        asI .i64 (gv ws159 0) fun n964 =>
        out .normal [(.int .i64 (add .i64 n964 1))] h772))) (
    out (.exit 4) [gv ws159 0] h770)

noncomputable def f16_l82 (_rec : Rec) (_k : Nat) (n2 : Int) (ws158 : List Value) (h766 : H) (v1138 : Value) (n970 : Int) (ws161 : List Value) (h781 : H) : Option (Ex × List Value × H) :=
  asI .i64 (gv ws161 0) fun n971 =>
  ifB (lt n971 n970) (
    asK (gv ws161 0) fun n972 =>
    six v1138 n972 4 fun b126 b127 =>
    ld Try.prog h781 67 b126 b127 fun v1139 =>
    al h781 67 [(.int .i64 0), (.int .i64 0), (.int .i64 0), (.int .i64 0)] fun h782 =>
    st Try.prog h782 67 (nx h781) 0 v1139 fun h783 =>
    asK (gv ws161 0) fun n973 =>
    nn n973 (
      ifB (eq (and .i64 (shr .i64 n2 n973) 1) 1) (
        asI .i64 (gv ws161 0) fun n974 =>
        asI .i64 (gv ws158 1) fun n975 =>
        ifB (not (eq n974 n975)) (
          ld Try.prog h783 50 (nx h766) (off 0 2) fun v1140 =>
          ld Try.prog h783 67 (nx h781) 0 fun v1141 =>
          bls Try.prog h783 50 1 [(0, v1141)] fun v1142 h784 =>
          app Try.prog h784 50 50 v1140 v1142 fun v1143 h785 =>
          st Try.prog h785 50 (nx h766) (off 0 2) v1143 fun h786 =>
          asI .i64 (gv ws161 0) fun n976 =>
          out .normal [(.int .i64 (add .i64 n976 1))] h786) (
          asI .i64 (gv ws161 0) fun n977 =>
          out .normal [(.int .i64 (add .i64 n977 1))] h783)) (
        asI .i64 (gv ws161 0) fun n978 =>
        out .normal [(.int .i64 (add .i64 n978 1))] h783))) (
    out (.exit 4) [gv ws161 0] h781)

noncomputable def f16_l80 (rec : Rec) (k : Nat) (h0 : H) (n2 : Int) (ws158 : List Value) (h766 : H) : Option (Ex × List Value × H) :=
  ld Try.prog h766 45 (nx h0) (off 0 2) fun v1117 =>
  len v1117 fun n949 =>
  asI .i64 (gv ws158 1) fun n950 =>
  ifB (lt n950 n949) (
    asI .i64 (gv ws158 1) fun n951 =>
    ifB (le 0 n951) (
      asK (gv ws158 1) fun n952 =>
      nn n952 (
        ifB (eq (and .i64 (shr .i64 n2 n952) 1) 0) (
          asI .i64 (gv ws158 1) fun n953 =>
          out .normal [gv ws158 0, (.int .i64 (add .i64 n953 1))] h766) (
          ld Try.prog h766 3 (nx h0) 0 fun v1118 =>
          asI .i64 v1118 fun n954 =>
          ld Try.prog h766 3 (nx h0) (off 0 1) fun v1119 =>
          asI .i64 v1119 fun n955 =>
          bld Try.prog 52 [(0, (.int .i64 n954)), (1, (.int .i64 n955))] fun v1120 =>
          al h766 52 [(.int .i64 0), (.int .i64 0), (.slice none 0 0)] fun h767 =>
          st Try.prog h767 52 (nx h766) 0 v1120 fun h768 =>
          ld Try.prog h768 47 (nx h0) 0 fun v1121 =>
          calls rec h768 37 [v1121] fun v1122 h769 =>
          fld Try.prog 52 v1122 2 fun v1123 =>
          len v1123 fun n956 =>
          lp k (f16_l81 rec k n2 ws158 h766 v1123 n956) [(.int .i64 0)] h769 fun e79 _ h776 =>
          onE e79 4 (
            ld Try.prog h776 52 (nx h766) 0 fun v1129 =>
            calls rec h776 47 [v1129] fun v1130 h777 =>
            ext v1130 0 fun _ =>
            ext v1130 1 fun v1132 =>
            asI .i64 v1132 fun n965 =>
            asI .i64 (gv ws158 1) fun n966 =>
            eqv Try.prog 4 (.bool (eq n965 0)) (.bool (le 0 n966)) fun q132 =>
            ifB (not q132) (
              out .ret [(.bool false), gv ws158 1] h777) (
              asI .i64 (gv ws158 1) fun n967 =>
              out .normal [gv ws158 0, (.int .i64 (add .i64 n967 1))] h777)) (
            none)))) (
      ld Try.prog h766 3 (nx h0) 0 fun v1133 =>
      asI .i64 v1133 fun n968 =>
      ld Try.prog h766 3 (nx h0) (off 0 1) fun v1134 =>
      asI .i64 v1134 fun n969 =>
      bld Try.prog 52 [(0, (.int .i64 n968)), (1, (.int .i64 n969))] fun v1135 =>
      al h766 52 [(.int .i64 0), (.int .i64 0), (.slice none 0 0)] fun h778 =>
      st Try.prog h778 52 (nx h766) 0 v1135 fun h779 =>
      ld Try.prog h779 47 (nx h0) 0 fun v1136 =>
      calls rec h779 37 [v1136] fun v1137 h780 =>
      fld Try.prog 52 v1137 2 fun v1138 =>
      len v1138 fun n970 =>
      lp k (f16_l82 rec k n2 ws158 h766 v1138 n970) [(.int .i64 0)] h780 fun e80 _ h787 =>
      onE e80 4 (
        ld Try.prog h787 52 (nx h766) 0 fun v1144 =>
        calls rec h787 47 [v1144] fun v1145 h788 =>
        ext v1145 0 fun _ =>
        ext v1145 1 fun v1147 =>
        asI .i64 v1147 fun n979 =>
        asI .i64 (gv ws158 1) fun n980 =>
        eqv Try.prog 4 (.bool (eq n979 0)) (.bool (le 0 n980)) fun q133 =>
        ifB (not q133) (
          out .ret [(.bool false), gv ws158 1] h788) (
          asI .i64 (gv ws158 1) fun n981 =>
          out .normal [gv ws158 0, (.int .i64 (add .i64 n981 1))] h788)) (
        none))) (
    out (.exit 2) [gv ws158 0, gv ws158 1] h766)

noncomputable def f16_l84 (_rec : Rec) (_k : Nat) (n2 : Int) (ws164 : List Value) (h794 : H) (v1162 : Value) (n991 : Int) (ws165 : List Value) (h798 : H) : Option (Ex × List Value × H) :=
  asI .i64 (gv ws165 0) fun n992 =>
  ifB (lt n992 n991) (
    asK (gv ws165 0) fun n993 =>
    six v1162 n993 4 fun b128 b129 =>
    ld Try.prog h798 67 b128 b129 fun v1163 =>
    al h798 67 [(.int .i64 0), (.int .i64 0), (.int .i64 0), (.int .i64 0)] fun h799 =>
    st Try.prog h799 67 (nx h798) 0 v1163 fun h800 =>
    asK (gv ws165 0) fun n994 =>
    nn n994 (
      ifB (eq (and .i64 (shr .i64 n2 n994) 1) 1) (
        asI .i64 (gv ws165 0) fun n995 =>
        asI .i64 (gv ws164 1) fun n996 =>
        ifB (not (eq n995 n996)) (
          ld Try.prog h800 50 (nx h794) (off 0 2) fun v1164 =>
          ld Try.prog h800 67 (nx h798) 0 fun v1165 =>
          bls Try.prog h800 50 1 [(0, v1165)] fun v1166 h801 =>
          app Try.prog h801 50 50 v1164 v1166 fun v1167 h802 =>
          st Try.prog h802 50 (nx h794) (off 0 2) v1167 fun h803 =>
          asI .i64 (gv ws165 0) fun n997 =>
          out .normal [(.int .i64 (add .i64 n997 1))] h803) (
          asI .i64 (gv ws165 0) fun n998 =>
          out .normal [(.int .i64 (add .i64 n998 1))] h800)) (
        asI .i64 (gv ws165 0) fun n999 =>
        out .normal [(.int .i64 (add .i64 n999 1))] h800))) (
    out (.exit 4) [gv ws165 0] h798)

noncomputable def f16_l85 (_rec : Rec) (_k : Nat) (n2 : Int) (ws164 : List Value) (h794 : H) (v1177 : Value) (n1005 : Int) (ws167 : List Value) (h809 : H) : Option (Ex × List Value × H) :=
  asI .i64 (gv ws167 0) fun n1006 =>
  ifB (lt n1006 n1005) (
    asK (gv ws167 0) fun n1007 =>
    six v1177 n1007 4 fun b130 b131 =>
    ld Try.prog h809 67 b130 b131 fun v1178 =>
    al h809 67 [(.int .i64 0), (.int .i64 0), (.int .i64 0), (.int .i64 0)] fun h810 =>
    st Try.prog h810 67 (nx h809) 0 v1178 fun h811 =>
    asK (gv ws167 0) fun n1008 =>
    nn n1008 (
      ifB (eq (and .i64 (shr .i64 n2 n1008) 1) 1) (
        asI .i64 (gv ws167 0) fun n1009 =>
        asI .i64 (gv ws164 1) fun n1010 =>
        ifB (not (eq n1009 n1010)) (
          ld Try.prog h811 50 (nx h794) (off 0 2) fun v1179 =>
          ld Try.prog h811 67 (nx h809) 0 fun v1180 =>
          bls Try.prog h811 50 1 [(0, v1180)] fun v1181 h812 =>
          app Try.prog h812 50 50 v1179 v1181 fun v1182 h813 =>
          st Try.prog h813 50 (nx h794) (off 0 2) v1182 fun h814 =>
          asI .i64 (gv ws167 0) fun n1011 =>
          out .normal [(.int .i64 (add .i64 n1011 1))] h814) (
          asI .i64 (gv ws167 0) fun n1012 =>
          out .normal [(.int .i64 (add .i64 n1012 1))] h811)) (
        asI .i64 (gv ws167 0) fun n1013 =>
        out .normal [(.int .i64 (add .i64 n1013 1))] h811))) (
    out (.exit 4) [gv ws167 0] h809)

noncomputable def f16_l83 (rec : Rec) (k : Nat) (h0 : H) (n2 : Int) (ws164 : List Value) (h794 : H) : Option (Ex × List Value × H) :=
  ld Try.prog h794 45 (nx h0) (off 0 2) fun v1156 =>
  len v1156 fun n984 =>
  asI .i64 (gv ws164 1) fun n985 =>
  ifB (lt n985 n984) (
    asI .i64 (gv ws164 1) fun n986 =>
    ifB (le 0 n986) (
      asK (gv ws164 1) fun n987 =>
      nn n987 (
        ifB (eq (and .i64 (shr .i64 n2 n987) 1) 0) (
          asI .i64 (gv ws164 1) fun n988 =>
          out .normal [gv ws164 0, (.int .i64 (add .i64 n988 1))] h794) (
          ld Try.prog h794 3 (nx h0) 0 fun v1157 =>
          asI .i64 v1157 fun n989 =>
          ld Try.prog h794 3 (nx h0) (off 0 1) fun v1158 =>
          asI .i64 v1158 fun n990 =>
          bld Try.prog 52 [(0, (.int .i64 n989)), (1, (.int .i64 n990))] fun v1159 =>
          al h794 52 [(.int .i64 0), (.int .i64 0), (.slice none 0 0)] fun h795 =>
          st Try.prog h795 52 (nx h794) 0 v1159 fun h796 =>
          ld Try.prog h796 47 (nx h0) 0 fun v1160 =>
          calls rec h796 37 [v1160] fun v1161 h797 =>
          fld Try.prog 52 v1161 2 fun v1162 =>
          len v1162 fun n991 =>
          lp k (f16_l84 rec k n2 ws164 h794 v1162 n991) [(.int .i64 0)] h797 fun e82 _ h804 =>
          onE e82 4 (
            ld Try.prog h804 52 (nx h794) 0 fun v1168 =>
            calls rec h804 47 [v1168] fun v1169 h805 =>
            ext v1169 0 fun _ =>
            ext v1169 1 fun v1171 =>
            asI .i64 v1171 fun n1000 =>
            asI .i64 (gv ws164 1) fun n1001 =>
            eqv Try.prog 4 (.bool (eq n1000 0)) (.bool (le 0 n1001)) fun q137 =>
            ifB (not q137) (
              out .ret [(.bool false), gv ws164 1] h805) (
              asI .i64 (gv ws164 1) fun n1002 =>
              out .normal [gv ws164 0, (.int .i64 (add .i64 n1002 1))] h805)) (
            none)))) (
      ld Try.prog h794 3 (nx h0) 0 fun v1172 =>
      asI .i64 v1172 fun n1003 =>
      ld Try.prog h794 3 (nx h0) (off 0 1) fun v1173 =>
      asI .i64 v1173 fun n1004 =>
      bld Try.prog 52 [(0, (.int .i64 n1003)), (1, (.int .i64 n1004))] fun v1174 =>
      al h794 52 [(.int .i64 0), (.int .i64 0), (.slice none 0 0)] fun h806 =>
      st Try.prog h806 52 (nx h794) 0 v1174 fun h807 =>
      ld Try.prog h807 47 (nx h0) 0 fun v1175 =>
      calls rec h807 37 [v1175] fun v1176 h808 =>
      fld Try.prog 52 v1176 2 fun v1177 =>
      len v1177 fun n1005 =>
      lp k (f16_l85 rec k n2 ws164 h794 v1177 n1005) [(.int .i64 0)] h808 fun e83 _ h815 =>
      onE e83 4 (
        ld Try.prog h815 52 (nx h794) 0 fun v1183 =>
        calls rec h815 47 [v1183] fun v1184 h816 =>
        ext v1184 0 fun _ =>
        ext v1184 1 fun v1186 =>
        asI .i64 v1186 fun n1014 =>
        asI .i64 (gv ws164 1) fun n1015 =>
        eqv Try.prog 4 (.bool (eq n1014 0)) (.bool (le 0 n1015)) fun q138 =>
        ifB (not q138) (
          out .ret [(.bool false), gv ws164 1] h816) (
          asI .i64 (gv ws164 1) fun n1016 =>
          out .normal [gv ws164 0, (.int .i64 (add .i64 n1016 1))] h816)) (
        none))) (
    out (.exit 2) [gv ws164 0, gv ws164 1] h794)

noncomputable def f16_l87 (_rec : Rec) (_k : Nat) (n2 : Int) (ws170 : List Value) (h825 : H) (v1208 : Value) (n1029 : Int) (ws171 : List Value) (h829 : H) : Option (Ex × List Value × H) :=
  asI .i64 (gv ws171 0) fun n1030 =>
  ifB (lt n1030 n1029) (
    asK (gv ws171 0) fun n1031 =>
    six v1208 n1031 4 fun b132 b133 =>
    ld Try.prog h829 67 b132 b133 fun v1209 =>
    al h829 67 [(.int .i64 0), (.int .i64 0), (.int .i64 0), (.int .i64 0)] fun h830 =>
    st Try.prog h830 67 (nx h829) 0 v1209 fun h831 =>
    asK (gv ws171 0) fun n1032 =>
    nn n1032 (
      ifB (eq (and .i64 (shr .i64 n2 n1032) 1) 1) (
        asI .i64 (gv ws171 0) fun n1033 =>
        asI .i64 (gv ws170 1) fun n1034 =>
        ifB (not (eq n1033 n1034)) (
          ld Try.prog h831 50 (nx h825) (off 0 2) fun v1210 =>
          ld Try.prog h831 67 (nx h829) 0 fun v1211 =>
          bls Try.prog h831 50 1 [(0, v1211)] fun v1212 h832 =>
          app Try.prog h832 50 50 v1210 v1212 fun v1213 h833 =>
          st Try.prog h833 50 (nx h825) (off 0 2) v1213 fun h834 =>
          asI .i64 (gv ws171 0) fun n1035 =>
          out .normal [(.int .i64 (add .i64 n1035 1))] h834) (
          asI .i64 (gv ws171 0) fun n1036 =>
          out .normal [(.int .i64 (add .i64 n1036 1))] h831)) (
        asI .i64 (gv ws171 0) fun n1037 =>
        out .normal [(.int .i64 (add .i64 n1037 1))] h831))) (
    out (.exit 4) [gv ws171 0] h829)

noncomputable def f16_l88 (_rec : Rec) (_k : Nat) (n2 : Int) (ws170 : List Value) (h825 : H) (v1223 : Value) (n1043 : Int) (ws173 : List Value) (h840 : H) : Option (Ex × List Value × H) :=
  asI .i64 (gv ws173 0) fun n1044 =>
  ifB (lt n1044 n1043) (
    asK (gv ws173 0) fun n1045 =>
    six v1223 n1045 4 fun b134 b135 =>
    ld Try.prog h840 67 b134 b135 fun v1224 =>
    al h840 67 [(.int .i64 0), (.int .i64 0), (.int .i64 0), (.int .i64 0)] fun h841 =>
    st Try.prog h841 67 (nx h840) 0 v1224 fun h842 =>
    asK (gv ws173 0) fun n1046 =>
    nn n1046 (
      ifB (eq (and .i64 (shr .i64 n2 n1046) 1) 1) (
        asI .i64 (gv ws173 0) fun n1047 =>
        asI .i64 (gv ws170 1) fun n1048 =>
        ifB (not (eq n1047 n1048)) (
          ld Try.prog h842 50 (nx h825) (off 0 2) fun v1225 =>
          ld Try.prog h842 67 (nx h840) 0 fun v1226 =>
          bls Try.prog h842 50 1 [(0, v1226)] fun v1227 h843 =>
          app Try.prog h843 50 50 v1225 v1227 fun v1228 h844 =>
          st Try.prog h844 50 (nx h825) (off 0 2) v1228 fun h845 =>
          asI .i64 (gv ws173 0) fun n1049 =>
          out .normal [(.int .i64 (add .i64 n1049 1))] h845) (
          asI .i64 (gv ws173 0) fun n1050 =>
          out .normal [(.int .i64 (add .i64 n1050 1))] h842)) (
        asI .i64 (gv ws173 0) fun n1051 =>
        out .normal [(.int .i64 (add .i64 n1051 1))] h842))) (
    out (.exit 4) [gv ws173 0] h840)

noncomputable def f16_l86 (rec : Rec) (k : Nat) (h0 : H) (n2 : Int) (ws170 : List Value) (h825 : H) : Option (Ex × List Value × H) :=
  ld Try.prog h825 45 (nx h0) (off 0 2) fun v1202 =>
  len v1202 fun n1022 =>
  asI .i64 (gv ws170 1) fun n1023 =>
  ifB (lt n1023 n1022) (
    asI .i64 (gv ws170 1) fun n1024 =>
    ifB (le 0 n1024) (
      asK (gv ws170 1) fun n1025 =>
      nn n1025 (
        ifB (eq (and .i64 (shr .i64 n2 n1025) 1) 0) (
          asI .i64 (gv ws170 1) fun n1026 =>
          out .normal [gv ws170 0, (.int .i64 (add .i64 n1026 1))] h825) (
          ld Try.prog h825 3 (nx h0) 0 fun v1203 =>
          asI .i64 v1203 fun n1027 =>
          ld Try.prog h825 3 (nx h0) (off 0 1) fun v1204 =>
          asI .i64 v1204 fun n1028 =>
          bld Try.prog 52 [(0, (.int .i64 n1027)), (1, (.int .i64 n1028))] fun v1205 =>
          al h825 52 [(.int .i64 0), (.int .i64 0), (.slice none 0 0)] fun h826 =>
          st Try.prog h826 52 (nx h825) 0 v1205 fun h827 =>
          ld Try.prog h827 47 (nx h0) 0 fun v1206 =>
          calls rec h827 37 [v1206] fun v1207 h828 =>
          fld Try.prog 52 v1207 2 fun v1208 =>
          len v1208 fun n1029 =>
          lp k (f16_l87 rec k n2 ws170 h825 v1208 n1029) [(.int .i64 0)] h828 fun e85 _ h835 =>
          onE e85 4 (
            ld Try.prog h835 52 (nx h825) 0 fun v1214 =>
            calls rec h835 47 [v1214] fun v1215 h836 =>
            ext v1215 0 fun _ =>
            ext v1215 1 fun v1217 =>
            asI .i64 v1217 fun n1038 =>
            asI .i64 (gv ws170 1) fun n1039 =>
            eqv Try.prog 4 (.bool (eq n1038 0)) (.bool (le 0 n1039)) fun q142 =>
            ifB (not q142) (
              out .ret [(.bool false), gv ws170 1] h836) (
              asI .i64 (gv ws170 1) fun n1040 =>
              out .normal [gv ws170 0, (.int .i64 (add .i64 n1040 1))] h836)) (
            none)))) (
      ld Try.prog h825 3 (nx h0) 0 fun v1218 =>
      asI .i64 v1218 fun n1041 =>
      ld Try.prog h825 3 (nx h0) (off 0 1) fun v1219 =>
      asI .i64 v1219 fun n1042 =>
      bld Try.prog 52 [(0, (.int .i64 n1041)), (1, (.int .i64 n1042))] fun v1220 =>
      al h825 52 [(.int .i64 0), (.int .i64 0), (.slice none 0 0)] fun h837 =>
      st Try.prog h837 52 (nx h825) 0 v1220 fun h838 =>
      ld Try.prog h838 47 (nx h0) 0 fun v1221 =>
      calls rec h838 37 [v1221] fun v1222 h839 =>
      fld Try.prog 52 v1222 2 fun v1223 =>
      len v1223 fun n1043 =>
      lp k (f16_l88 rec k n2 ws170 h825 v1223 n1043) [(.int .i64 0)] h839 fun e86 _ h846 =>
      onE e86 4 (
        ld Try.prog h846 52 (nx h825) 0 fun v1229 =>
        calls rec h846 47 [v1229] fun v1230 h847 =>
        ext v1230 0 fun _ =>
        ext v1230 1 fun v1232 =>
        asI .i64 v1232 fun n1052 =>
        asI .i64 (gv ws170 1) fun n1053 =>
        eqv Try.prog 4 (.bool (eq n1052 0)) (.bool (le 0 n1053)) fun q143 =>
        ifB (not q143) (
          out .ret [(.bool false), gv ws170 1] h847) (
          asI .i64 (gv ws170 1) fun n1054 =>
          out .normal [gv ws170 0, (.int .i64 (add .i64 n1054 1))] h847)) (
        none))) (
    out (.exit 2) [gv ws170 0, gv ws170 1] h825)

noncomputable def f16_l90 (_rec : Rec) (_k : Nat) (n2 : Int) (ws176 : List Value) (h853 : H) (v1247 : Value) (n1064 : Int) (ws177 : List Value) (h857 : H) : Option (Ex × List Value × H) :=
  asI .i64 (gv ws177 0) fun n1065 =>
  ifB (lt n1065 n1064) (
    asK (gv ws177 0) fun n1066 =>
    six v1247 n1066 4 fun b136 b137 =>
    ld Try.prog h857 67 b136 b137 fun v1248 =>
    al h857 67 [(.int .i64 0), (.int .i64 0), (.int .i64 0), (.int .i64 0)] fun h858 =>
    st Try.prog h858 67 (nx h857) 0 v1248 fun h859 =>
    asK (gv ws177 0) fun n1067 =>
    nn n1067 (
      ifB (eq (and .i64 (shr .i64 n2 n1067) 1) 1) (
        asI .i64 (gv ws177 0) fun n1068 =>
        asI .i64 (gv ws176 1) fun n1069 =>
        ifB (not (eq n1068 n1069)) (
          ld Try.prog h859 50 (nx h853) (off 0 2) fun v1249 =>
          ld Try.prog h859 67 (nx h857) 0 fun v1250 =>
          bls Try.prog h859 50 1 [(0, v1250)] fun v1251 h860 =>
          app Try.prog h860 50 50 v1249 v1251 fun v1252 h861 =>
          st Try.prog h861 50 (nx h853) (off 0 2) v1252 fun h862 =>
          asI .i64 (gv ws177 0) fun n1070 =>
          out .normal [(.int .i64 (add .i64 n1070 1))] h862) (
          asI .i64 (gv ws177 0) fun n1071 =>
          out .normal [(.int .i64 (add .i64 n1071 1))] h859)) (
        asI .i64 (gv ws177 0) fun n1072 =>
        out .normal [(.int .i64 (add .i64 n1072 1))] h859))) (
    out (.exit 4) [gv ws177 0] h857)

noncomputable def f16_l91 (_rec : Rec) (_k : Nat) (n2 : Int) (ws176 : List Value) (h853 : H) (v1262 : Value) (n1078 : Int) (ws179 : List Value) (h868 : H) : Option (Ex × List Value × H) :=
  asI .i64 (gv ws179 0) fun n1079 =>
  ifB (lt n1079 n1078) (
    asK (gv ws179 0) fun n1080 =>
    six v1262 n1080 4 fun b138 b139 =>
    ld Try.prog h868 67 b138 b139 fun v1263 =>
    al h868 67 [(.int .i64 0), (.int .i64 0), (.int .i64 0), (.int .i64 0)] fun h869 =>
    st Try.prog h869 67 (nx h868) 0 v1263 fun h870 =>
    asK (gv ws179 0) fun n1081 =>
    nn n1081 (
      ifB (eq (and .i64 (shr .i64 n2 n1081) 1) 1) (
        asI .i64 (gv ws179 0) fun n1082 =>
        asI .i64 (gv ws176 1) fun n1083 =>
        ifB (not (eq n1082 n1083)) (
          ld Try.prog h870 50 (nx h853) (off 0 2) fun v1264 =>
          ld Try.prog h870 67 (nx h868) 0 fun v1265 =>
          bls Try.prog h870 50 1 [(0, v1265)] fun v1266 h871 =>
          app Try.prog h871 50 50 v1264 v1266 fun v1267 h872 =>
          st Try.prog h872 50 (nx h853) (off 0 2) v1267 fun h873 =>
          asI .i64 (gv ws179 0) fun n1084 =>
          out .normal [(.int .i64 (add .i64 n1084 1))] h873) (
          asI .i64 (gv ws179 0) fun n1085 =>
          out .normal [(.int .i64 (add .i64 n1085 1))] h870)) (
        asI .i64 (gv ws179 0) fun n1086 =>
        out .normal [(.int .i64 (add .i64 n1086 1))] h870))) (
    out (.exit 4) [gv ws179 0] h868)

noncomputable def f16_l89 (rec : Rec) (k : Nat) (h0 : H) (n2 : Int) (ws176 : List Value) (h853 : H) : Option (Ex × List Value × H) :=
  ld Try.prog h853 45 (nx h0) (off 0 2) fun v1241 =>
  len v1241 fun n1057 =>
  asI .i64 (gv ws176 1) fun n1058 =>
  ifB (lt n1058 n1057) (
    asI .i64 (gv ws176 1) fun n1059 =>
    ifB (le 0 n1059) (
      asK (gv ws176 1) fun n1060 =>
      nn n1060 (
        ifB (eq (and .i64 (shr .i64 n2 n1060) 1) 0) (
          asI .i64 (gv ws176 1) fun n1061 =>
          out .normal [gv ws176 0, (.int .i64 (add .i64 n1061 1))] h853) (
          ld Try.prog h853 3 (nx h0) 0 fun v1242 =>
          asI .i64 v1242 fun n1062 =>
          ld Try.prog h853 3 (nx h0) (off 0 1) fun v1243 =>
          asI .i64 v1243 fun n1063 =>
          bld Try.prog 52 [(0, (.int .i64 n1062)), (1, (.int .i64 n1063))] fun v1244 =>
          al h853 52 [(.int .i64 0), (.int .i64 0), (.slice none 0 0)] fun h854 =>
          st Try.prog h854 52 (nx h853) 0 v1244 fun h855 =>
          ld Try.prog h855 47 (nx h0) 0 fun v1245 =>
          calls rec h855 37 [v1245] fun v1246 h856 =>
          fld Try.prog 52 v1246 2 fun v1247 =>
          len v1247 fun n1064 =>
          lp k (f16_l90 rec k n2 ws176 h853 v1247 n1064) [(.int .i64 0)] h856 fun e88 _ h863 =>
          onE e88 4 (
            ld Try.prog h863 52 (nx h853) 0 fun v1253 =>
            calls rec h863 47 [v1253] fun v1254 h864 =>
            ext v1254 0 fun _ =>
            ext v1254 1 fun v1256 =>
            asI .i64 v1256 fun n1073 =>
            asI .i64 (gv ws176 1) fun n1074 =>
            eqv Try.prog 4 (.bool (eq n1073 0)) (.bool (le 0 n1074)) fun q147 =>
            ifB (not q147) (
              out .ret [(.bool false), gv ws176 1] h864) (
              asI .i64 (gv ws176 1) fun n1075 =>
              out .normal [gv ws176 0, (.int .i64 (add .i64 n1075 1))] h864)) (
            none)))) (
      ld Try.prog h853 3 (nx h0) 0 fun v1257 =>
      asI .i64 v1257 fun n1076 =>
      ld Try.prog h853 3 (nx h0) (off 0 1) fun v1258 =>
      asI .i64 v1258 fun n1077 =>
      bld Try.prog 52 [(0, (.int .i64 n1076)), (1, (.int .i64 n1077))] fun v1259 =>
      al h853 52 [(.int .i64 0), (.int .i64 0), (.slice none 0 0)] fun h865 =>
      st Try.prog h865 52 (nx h853) 0 v1259 fun h866 =>
      ld Try.prog h866 47 (nx h0) 0 fun v1260 =>
      calls rec h866 37 [v1260] fun v1261 h867 =>
      fld Try.prog 52 v1261 2 fun v1262 =>
      len v1262 fun n1078 =>
      lp k (f16_l91 rec k n2 ws176 h853 v1262 n1078) [(.int .i64 0)] h867 fun e89 _ h874 =>
      onE e89 4 (
        ld Try.prog h874 52 (nx h853) 0 fun v1268 =>
        calls rec h874 47 [v1268] fun v1269 h875 =>
        ext v1269 0 fun _ =>
        ext v1269 1 fun v1271 =>
        asI .i64 v1271 fun n1087 =>
        asI .i64 (gv ws176 1) fun n1088 =>
        eqv Try.prog 4 (.bool (eq n1087 0)) (.bool (le 0 n1088)) fun q148 =>
        ifB (not q148) (
          out .ret [(.bool false), gv ws176 1] h875) (
          asI .i64 (gv ws176 1) fun n1089 =>
          out .normal [gv ws176 0, (.int .i64 (add .i64 n1089 1))] h875)) (
        none))) (
    out (.exit 2) [gv ws176 0, gv ws176 1] h853)

noncomputable def f16_l92 (_rec : Rec) (_k : Nat) (n0 : Int) (h0 : H) (v1273 : Value) (n1090 : Int) (ws182 : List Value) (h879 : H) : Option (Ex × List Value × H) :=
  asI .i64 (gv ws182 0) fun n1091 =>
  ifB (lt n1091 n1090) (
    asK (gv ws182 0) fun n1092 =>
    six v1273 n1092 1 fun b140 b141 =>
    ld Try.prog h879 3 b140 b141 fun v1274 =>
    asI .i64 v1274 fun n1093 =>
    ld Try.prog h879 3 (nx h0) 0 fun v1275 =>
    asI .i64 v1275 fun n1094 =>
    nz (wr .u64 n1094) (
      ld Try.prog h879 3 (nx h0) 0 fun v1276 =>
      asI .i64 v1276 fun n1095 =>
      nz n1095 (
        asK (gv ws182 0) fun n1096 =>
        six v1273 n1096 1 fun b142 b143 =>
        st Try.prog h879 3 b142 b143 (.int .i64 (rem .i64 (add .i64 n1093 (wr .i64 (rem .u64 (wr .u64 n0) (wr .u64 n1094)))) n1095)) fun h880 =>
        asI .i64 (gv ws182 0) fun n1097 =>
        out .normal [(.int .i64 (add .i64 n1097 1))] h880))) (
    out (.exit 0) [gv ws182 0] h879)

noncomputable def f16_l94 (_rec : Rec) (_k : Nat) (n2 : Int) (ws184 : List Value) (h890 : H) (v1302 : Value) (n1111 : Int) (ws185 : List Value) (h894 : H) : Option (Ex × List Value × H) :=
  asI .i64 (gv ws185 0) fun n1112 =>
  ifB (lt n1112 n1111) (
    asK (gv ws185 0) fun n1113 =>
    six v1302 n1113 4 fun b144 b145 =>
    ld Try.prog h894 67 b144 b145 fun v1303 =>
    al h894 67 [(.int .i64 0), (.int .i64 0), (.int .i64 0), (.int .i64 0)] fun h895 =>
    st Try.prog h895 67 (nx h894) 0 v1303 fun h896 =>
    asK (gv ws185 0) fun n1114 =>
    nn n1114 (
      ifB (eq (and .i64 (shr .i64 n2 n1114) 1) 1) (
        asI .i64 (gv ws185 0) fun n1115 =>
        asI .i64 (gv ws184 1) fun n1116 =>
        ifB (not (eq n1115 n1116)) (
          ld Try.prog h896 50 (nx h890) (off 0 2) fun v1304 =>
          ld Try.prog h896 67 (nx h894) 0 fun v1305 =>
          bls Try.prog h896 50 1 [(0, v1305)] fun v1306 h897 =>
          app Try.prog h897 50 50 v1304 v1306 fun v1307 h898 =>
          st Try.prog h898 50 (nx h890) (off 0 2) v1307 fun h899 =>
          asI .i64 (gv ws185 0) fun n1117 =>
          out .normal [(.int .i64 (add .i64 n1117 1))] h899) (
          asI .i64 (gv ws185 0) fun n1118 =>
          out .normal [(.int .i64 (add .i64 n1118 1))] h896)) (
        asI .i64 (gv ws185 0) fun n1119 =>
        out .normal [(.int .i64 (add .i64 n1119 1))] h896))) (
    out (.exit 4) [gv ws185 0] h894)

noncomputable def f16_l95 (_rec : Rec) (_k : Nat) (n2 : Int) (ws184 : List Value) (h890 : H) (v1317 : Value) (n1125 : Int) (ws187 : List Value) (h905 : H) : Option (Ex × List Value × H) :=
  asI .i64 (gv ws187 0) fun n1126 =>
  ifB (lt n1126 n1125) (
    asK (gv ws187 0) fun n1127 =>
    six v1317 n1127 4 fun b146 b147 =>
    ld Try.prog h905 67 b146 b147 fun v1318 =>
    al h905 67 [(.int .i64 0), (.int .i64 0), (.int .i64 0), (.int .i64 0)] fun h906 =>
    st Try.prog h906 67 (nx h905) 0 v1318 fun h907 =>
    asK (gv ws187 0) fun n1128 =>
    nn n1128 (
      ifB (eq (and .i64 (shr .i64 n2 n1128) 1) 1) (
        asI .i64 (gv ws187 0) fun n1129 =>
        asI .i64 (gv ws184 1) fun n1130 =>
        ifB (not (eq n1129 n1130)) (
          ld Try.prog h907 50 (nx h890) (off 0 2) fun v1319 =>
          ld Try.prog h907 67 (nx h905) 0 fun v1320 =>
          bls Try.prog h907 50 1 [(0, v1320)] fun v1321 h908 =>
          app Try.prog h908 50 50 v1319 v1321 fun v1322 h909 =>
          st Try.prog h909 50 (nx h890) (off 0 2) v1322 fun h910 =>
          asI .i64 (gv ws187 0) fun n1131 =>
          out .normal [(.int .i64 (add .i64 n1131 1))] h910) (
          asI .i64 (gv ws187 0) fun n1132 =>
          out .normal [(.int .i64 (add .i64 n1132 1))] h907)) (
        asI .i64 (gv ws187 0) fun n1133 =>
        out .normal [(.int .i64 (add .i64 n1133 1))] h907))) (
    out (.exit 4) [gv ws187 0] h905)

noncomputable def f16_l93 (rec : Rec) (k : Nat) (h0 : H) (n2 : Int) (ws184 : List Value) (h890 : H) : Option (Ex × List Value × H) :=
  ld Try.prog h890 45 (nx h0) (off 0 2) fun v1296 =>
  len v1296 fun n1104 =>
  asI .i64 (gv ws184 1) fun n1105 =>
  ifB (lt n1105 n1104) (
    asI .i64 (gv ws184 1) fun n1106 =>
    ifB (le 0 n1106) (
      asK (gv ws184 1) fun n1107 =>
      nn n1107 (
        ifB (eq (and .i64 (shr .i64 n2 n1107) 1) 0) (
          asI .i64 (gv ws184 1) fun n1108 =>
          out .normal [gv ws184 0, (.int .i64 (add .i64 n1108 1))] h890) (
          ld Try.prog h890 3 (nx h0) 0 fun v1297 =>
          asI .i64 v1297 fun n1109 =>
          ld Try.prog h890 3 (nx h0) (off 0 1) fun v1298 =>
          asI .i64 v1298 fun n1110 =>
          bld Try.prog 52 [(0, (.int .i64 n1109)), (1, (.int .i64 n1110))] fun v1299 =>
          al h890 52 [(.int .i64 0), (.int .i64 0), (.slice none 0 0)] fun h891 =>
          st Try.prog h891 52 (nx h890) 0 v1299 fun h892 =>
          ld Try.prog h892 47 (nx h0) 0 fun v1300 =>
          calls rec h892 37 [v1300] fun v1301 h893 =>
          fld Try.prog 52 v1301 2 fun v1302 =>
          len v1302 fun n1111 =>
          lp k (f16_l94 rec k n2 ws184 h890 v1302 n1111) [(.int .i64 0)] h893 fun e92 _ h900 =>
          onE e92 4 (
            ld Try.prog h900 52 (nx h890) 0 fun v1308 =>
            calls rec h900 47 [v1308] fun v1309 h901 =>
            ext v1309 0 fun _ =>
            ext v1309 1 fun v1311 =>
            asI .i64 v1311 fun n1120 =>
            asI .i64 (gv ws184 1) fun n1121 =>
            eqv Try.prog 4 (.bool (eq n1120 0)) (.bool (le 0 n1121)) fun q153 =>
            ifB (not q153) (
              out .ret [(.bool false), gv ws184 1] h901) (
              asI .i64 (gv ws184 1) fun n1122 =>
              out .normal [gv ws184 0, (.int .i64 (add .i64 n1122 1))] h901)) (
            none)))) (
      ld Try.prog h890 3 (nx h0) 0 fun v1312 =>
      asI .i64 v1312 fun n1123 =>
      ld Try.prog h890 3 (nx h0) (off 0 1) fun v1313 =>
      asI .i64 v1313 fun n1124 =>
      bld Try.prog 52 [(0, (.int .i64 n1123)), (1, (.int .i64 n1124))] fun v1314 =>
      al h890 52 [(.int .i64 0), (.int .i64 0), (.slice none 0 0)] fun h902 =>
      st Try.prog h902 52 (nx h890) 0 v1314 fun h903 =>
      ld Try.prog h903 47 (nx h0) 0 fun v1315 =>
      calls rec h903 37 [v1315] fun v1316 h904 =>
      fld Try.prog 52 v1316 2 fun v1317 =>
      len v1317 fun n1125 =>
      lp k (f16_l95 rec k n2 ws184 h890 v1317 n1125) [(.int .i64 0)] h904 fun e93 _ h911 =>
      onE e93 4 (
        ld Try.prog h911 52 (nx h890) 0 fun v1323 =>
        calls rec h911 47 [v1323] fun v1324 h912 =>
        ext v1324 0 fun _ =>
        ext v1324 1 fun v1326 =>
        asI .i64 v1326 fun n1134 =>
        asI .i64 (gv ws184 1) fun n1135 =>
        eqv Try.prog 4 (.bool (eq n1134 0)) (.bool (le 0 n1135)) fun q154 =>
        ifB (not q154) (
          out .ret [(.bool false), gv ws184 1] h912) (
          asI .i64 (gv ws184 1) fun n1136 =>
          out .normal [gv ws184 0, (.int .i64 (add .i64 n1136 1))] h912)) (
        none))) (
    out (.exit 2) [gv ws184 0, gv ws184 1] h890)

noncomputable def f16_l97 (_rec : Rec) (_k : Nat) (n2 : Int) (ws190 : List Value) (h918 : H) (v1341 : Value) (n1146 : Int) (ws191 : List Value) (h922 : H) : Option (Ex × List Value × H) :=
  asI .i64 (gv ws191 0) fun n1147 =>
  ifB (lt n1147 n1146) (
    asK (gv ws191 0) fun n1148 =>
    six v1341 n1148 4 fun b148 b149 =>
    ld Try.prog h922 67 b148 b149 fun v1342 =>
    al h922 67 [(.int .i64 0), (.int .i64 0), (.int .i64 0), (.int .i64 0)] fun h923 =>
    st Try.prog h923 67 (nx h922) 0 v1342 fun h924 =>
    asK (gv ws191 0) fun n1149 =>
    nn n1149 (
      ifB (eq (and .i64 (shr .i64 n2 n1149) 1) 1) (
        asI .i64 (gv ws191 0) fun n1150 =>
        asI .i64 (gv ws190 1) fun n1151 =>
        ifB (not (eq n1150 n1151)) (
          ld Try.prog h924 50 (nx h918) (off 0 2) fun v1343 =>
          ld Try.prog h924 67 (nx h922) 0 fun v1344 =>
          bls Try.prog h924 50 1 [(0, v1344)] fun v1345 h925 =>
          app Try.prog h925 50 50 v1343 v1345 fun v1346 h926 =>
          st Try.prog h926 50 (nx h918) (off 0 2) v1346 fun h927 =>
          asI .i64 (gv ws191 0) fun n1152 =>
          out .normal [(.int .i64 (add .i64 n1152 1))] h927) (
          asI .i64 (gv ws191 0) fun n1153 =>
          out .normal [(.int .i64 (add .i64 n1153 1))] h924)) (
        asI .i64 (gv ws191 0) fun n1154 =>
        out .normal [(.int .i64 (add .i64 n1154 1))] h924))) (
    out (.exit 4) [gv ws191 0] h922)

noncomputable def f16_l98 (_rec : Rec) (_k : Nat) (n2 : Int) (ws190 : List Value) (h918 : H) (v1356 : Value) (n1160 : Int) (ws193 : List Value) (h933 : H) : Option (Ex × List Value × H) :=
  asI .i64 (gv ws193 0) fun n1161 =>
  ifB (lt n1161 n1160) (
    asK (gv ws193 0) fun n1162 =>
    six v1356 n1162 4 fun b150 b151 =>
    ld Try.prog h933 67 b150 b151 fun v1357 =>
    al h933 67 [(.int .i64 0), (.int .i64 0), (.int .i64 0), (.int .i64 0)] fun h934 =>
    st Try.prog h934 67 (nx h933) 0 v1357 fun h935 =>
    asK (gv ws193 0) fun n1163 =>
    nn n1163 (
      ifB (eq (and .i64 (shr .i64 n2 n1163) 1) 1) (
        asI .i64 (gv ws193 0) fun n1164 =>
        asI .i64 (gv ws190 1) fun n1165 =>
        ifB (not (eq n1164 n1165)) (
          ld Try.prog h935 50 (nx h918) (off 0 2) fun v1358 =>
          ld Try.prog h935 67 (nx h933) 0 fun v1359 =>
          bls Try.prog h935 50 1 [(0, v1359)] fun v1360 h936 =>
          app Try.prog h936 50 50 v1358 v1360 fun v1361 h937 =>
          st Try.prog h937 50 (nx h918) (off 0 2) v1361 fun h938 =>
          asI .i64 (gv ws193 0) fun n1166 =>
          out .normal [(.int .i64 (add .i64 n1166 1))] h938) (
          asI .i64 (gv ws193 0) fun n1167 =>
          out .normal [(.int .i64 (add .i64 n1167 1))] h935)) (
        asI .i64 (gv ws193 0) fun n1168 =>
        out .normal [(.int .i64 (add .i64 n1168 1))] h935))) (
    out (.exit 4) [gv ws193 0] h933)

noncomputable def f16_l96 (rec : Rec) (k : Nat) (h0 : H) (n2 : Int) (ws190 : List Value) (h918 : H) : Option (Ex × List Value × H) :=
  ld Try.prog h918 45 (nx h0) (off 0 2) fun v1335 =>
  len v1335 fun n1139 =>
  asI .i64 (gv ws190 1) fun n1140 =>
  ifB (lt n1140 n1139) (
    asI .i64 (gv ws190 1) fun n1141 =>
    ifB (le 0 n1141) (
      asK (gv ws190 1) fun n1142 =>
      nn n1142 (
        ifB (eq (and .i64 (shr .i64 n2 n1142) 1) 0) (
          asI .i64 (gv ws190 1) fun n1143 =>
          out .normal [gv ws190 0, (.int .i64 (add .i64 n1143 1))] h918) (
          ld Try.prog h918 3 (nx h0) 0 fun v1336 =>
          asI .i64 v1336 fun n1144 =>
          ld Try.prog h918 3 (nx h0) (off 0 1) fun v1337 =>
          asI .i64 v1337 fun n1145 =>
          bld Try.prog 52 [(0, (.int .i64 n1144)), (1, (.int .i64 n1145))] fun v1338 =>
          al h918 52 [(.int .i64 0), (.int .i64 0), (.slice none 0 0)] fun h919 =>
          st Try.prog h919 52 (nx h918) 0 v1338 fun h920 =>
          ld Try.prog h920 47 (nx h0) 0 fun v1339 =>
          calls rec h920 37 [v1339] fun v1340 h921 =>
          fld Try.prog 52 v1340 2 fun v1341 =>
          len v1341 fun n1146 =>
          lp k (f16_l97 rec k n2 ws190 h918 v1341 n1146) [(.int .i64 0)] h921 fun e95 _ h928 =>
          onE e95 4 (
            ld Try.prog h928 52 (nx h918) 0 fun v1347 =>
            calls rec h928 47 [v1347] fun v1348 h929 =>
            ext v1348 0 fun _ =>
            ext v1348 1 fun v1350 =>
            asI .i64 v1350 fun n1155 =>
            asI .i64 (gv ws190 1) fun n1156 =>
            eqv Try.prog 4 (.bool (eq n1155 0)) (.bool (le 0 n1156)) fun q158 =>
            ifB (not q158) (
              out .ret [(.bool false), gv ws190 1] h929) (
              asI .i64 (gv ws190 1) fun n1157 =>
              out .normal [gv ws190 0, (.int .i64 (add .i64 n1157 1))] h929)) (
            none)))) (
      ld Try.prog h918 3 (nx h0) 0 fun v1351 =>
      asI .i64 v1351 fun n1158 =>
      ld Try.prog h918 3 (nx h0) (off 0 1) fun v1352 =>
      asI .i64 v1352 fun n1159 =>
      bld Try.prog 52 [(0, (.int .i64 n1158)), (1, (.int .i64 n1159))] fun v1353 =>
      al h918 52 [(.int .i64 0), (.int .i64 0), (.slice none 0 0)] fun h930 =>
      st Try.prog h930 52 (nx h918) 0 v1353 fun h931 =>
      ld Try.prog h931 47 (nx h0) 0 fun v1354 =>
      calls rec h931 37 [v1354] fun v1355 h932 =>
      fld Try.prog 52 v1355 2 fun v1356 =>
      len v1356 fun n1160 =>
      lp k (f16_l98 rec k n2 ws190 h918 v1356 n1160) [(.int .i64 0)] h932 fun e96 _ h939 =>
      onE e96 4 (
        ld Try.prog h939 52 (nx h918) 0 fun v1362 =>
        calls rec h939 47 [v1362] fun v1363 h940 =>
        ext v1363 0 fun _ =>
        ext v1363 1 fun v1365 =>
        asI .i64 v1365 fun n1169 =>
        asI .i64 (gv ws190 1) fun n1170 =>
        eqv Try.prog 4 (.bool (eq n1169 0)) (.bool (le 0 n1170)) fun q159 =>
        ifB (not q159) (
          out .ret [(.bool false), gv ws190 1] h940) (
          asI .i64 (gv ws190 1) fun n1171 =>
          out .normal [gv ws190 0, (.int .i64 (add .i64 n1171 1))] h940)) (
        none))) (
    out (.exit 2) [gv ws190 0, gv ws190 1] h918)

noncomputable def f16_l100 (_rec : Rec) (_k : Nat) (n2 : Int) (ws196 : List Value) (h949 : H) (v1387 : Value) (n1184 : Int) (ws197 : List Value) (h953 : H) : Option (Ex × List Value × H) :=
  asI .i64 (gv ws197 0) fun n1185 =>
  ifB (lt n1185 n1184) (
    asK (gv ws197 0) fun n1186 =>
    six v1387 n1186 4 fun b152 b153 =>
    ld Try.prog h953 67 b152 b153 fun v1388 =>
    al h953 67 [(.int .i64 0), (.int .i64 0), (.int .i64 0), (.int .i64 0)] fun h954 =>
    st Try.prog h954 67 (nx h953) 0 v1388 fun h955 =>
    asK (gv ws197 0) fun n1187 =>
    nn n1187 (
      ifB (eq (and .i64 (shr .i64 n2 n1187) 1) 1) (
        asI .i64 (gv ws197 0) fun n1188 =>
        asI .i64 (gv ws196 1) fun n1189 =>
        ifB (not (eq n1188 n1189)) (
          ld Try.prog h955 50 (nx h949) (off 0 2) fun v1389 =>
          ld Try.prog h955 67 (nx h953) 0 fun v1390 =>
          bls Try.prog h955 50 1 [(0, v1390)] fun v1391 h956 =>
          app Try.prog h956 50 50 v1389 v1391 fun v1392 h957 =>
          st Try.prog h957 50 (nx h949) (off 0 2) v1392 fun h958 =>
          asI .i64 (gv ws197 0) fun n1190 =>
          out .normal [(.int .i64 (add .i64 n1190 1))] h958) (
          asI .i64 (gv ws197 0) fun n1191 =>
          out .normal [(.int .i64 (add .i64 n1191 1))] h955)) (
        asI .i64 (gv ws197 0) fun n1192 =>
        out .normal [(.int .i64 (add .i64 n1192 1))] h955))) (
    out (.exit 4) [gv ws197 0] h953)

noncomputable def f16_l101 (_rec : Rec) (_k : Nat) (n2 : Int) (ws196 : List Value) (h949 : H) (v1402 : Value) (n1198 : Int) (ws199 : List Value) (h964 : H) : Option (Ex × List Value × H) :=
  asI .i64 (gv ws199 0) fun n1199 =>
  ifB (lt n1199 n1198) (
    asK (gv ws199 0) fun n1200 =>
    six v1402 n1200 4 fun b154 b155 =>
    ld Try.prog h964 67 b154 b155 fun v1403 =>
    al h964 67 [(.int .i64 0), (.int .i64 0), (.int .i64 0), (.int .i64 0)] fun h965 =>
    st Try.prog h965 67 (nx h964) 0 v1403 fun h966 =>
    asK (gv ws199 0) fun n1201 =>
    nn n1201 (
      ifB (eq (and .i64 (shr .i64 n2 n1201) 1) 1) (
        asI .i64 (gv ws199 0) fun n1202 =>
        asI .i64 (gv ws196 1) fun n1203 =>
        ifB (not (eq n1202 n1203)) (
          ld Try.prog h966 50 (nx h949) (off 0 2) fun v1404 =>
          ld Try.prog h966 67 (nx h964) 0 fun v1405 =>
          bls Try.prog h966 50 1 [(0, v1405)] fun v1406 h967 =>
          app Try.prog h967 50 50 v1404 v1406 fun v1407 h968 =>
          st Try.prog h968 50 (nx h949) (off 0 2) v1407 fun h969 =>
          asI .i64 (gv ws199 0) fun n1204 =>
          out .normal [(.int .i64 (add .i64 n1204 1))] h969) (
          asI .i64 (gv ws199 0) fun n1205 =>
          out .normal [(.int .i64 (add .i64 n1205 1))] h966)) (
        asI .i64 (gv ws199 0) fun n1206 =>
        out .normal [(.int .i64 (add .i64 n1206 1))] h966))) (
    out (.exit 4) [gv ws199 0] h964)

noncomputable def f16_l99 (rec : Rec) (k : Nat) (h0 : H) (n2 : Int) (ws196 : List Value) (h949 : H) : Option (Ex × List Value × H) :=
  ld Try.prog h949 45 (nx h0) (off 0 2) fun v1381 =>
  len v1381 fun n1177 =>
  asI .i64 (gv ws196 1) fun n1178 =>
  ifB (lt n1178 n1177) (
    asI .i64 (gv ws196 1) fun n1179 =>
    ifB (le 0 n1179) (
      asK (gv ws196 1) fun n1180 =>
      nn n1180 (
        ifB (eq (and .i64 (shr .i64 n2 n1180) 1) 0) (
          asI .i64 (gv ws196 1) fun n1181 =>
          out .normal [gv ws196 0, (.int .i64 (add .i64 n1181 1))] h949) (
          ld Try.prog h949 3 (nx h0) 0 fun v1382 =>
          asI .i64 v1382 fun n1182 =>
          ld Try.prog h949 3 (nx h0) (off 0 1) fun v1383 =>
          asI .i64 v1383 fun n1183 =>
          bld Try.prog 52 [(0, (.int .i64 n1182)), (1, (.int .i64 n1183))] fun v1384 =>
          al h949 52 [(.int .i64 0), (.int .i64 0), (.slice none 0 0)] fun h950 =>
          st Try.prog h950 52 (nx h949) 0 v1384 fun h951 =>
          ld Try.prog h951 47 (nx h0) 0 fun v1385 =>
          calls rec h951 37 [v1385] fun v1386 h952 =>
          fld Try.prog 52 v1386 2 fun v1387 =>
          len v1387 fun n1184 =>
          lp k (f16_l100 rec k n2 ws196 h949 v1387 n1184) [(.int .i64 0)] h952 fun e98 _ h959 =>
          onE e98 4 (
            ld Try.prog h959 52 (nx h949) 0 fun v1393 =>
            calls rec h959 47 [v1393] fun v1394 h960 =>
            ext v1394 0 fun _ =>
            ext v1394 1 fun v1396 =>
            asI .i64 v1396 fun n1193 =>
            asI .i64 (gv ws196 1) fun n1194 =>
            eqv Try.prog 4 (.bool (eq n1193 0)) (.bool (le 0 n1194)) fun q163 =>
            ifB (not q163) (
              out .ret [(.bool false), gv ws196 1] h960) (
              asI .i64 (gv ws196 1) fun n1195 =>
              out .normal [gv ws196 0, (.int .i64 (add .i64 n1195 1))] h960)) (
            none)))) (
      ld Try.prog h949 3 (nx h0) 0 fun v1397 =>
      asI .i64 v1397 fun n1196 =>
      ld Try.prog h949 3 (nx h0) (off 0 1) fun v1398 =>
      asI .i64 v1398 fun n1197 =>
      bld Try.prog 52 [(0, (.int .i64 n1196)), (1, (.int .i64 n1197))] fun v1399 =>
      al h949 52 [(.int .i64 0), (.int .i64 0), (.slice none 0 0)] fun h961 =>
      st Try.prog h961 52 (nx h949) 0 v1399 fun h962 =>
      ld Try.prog h962 47 (nx h0) 0 fun v1400 =>
      calls rec h962 37 [v1400] fun v1401 h963 =>
      fld Try.prog 52 v1401 2 fun v1402 =>
      len v1402 fun n1198 =>
      lp k (f16_l101 rec k n2 ws196 h949 v1402 n1198) [(.int .i64 0)] h963 fun e99 _ h970 =>
      onE e99 4 (
        ld Try.prog h970 52 (nx h949) 0 fun v1408 =>
        calls rec h970 47 [v1408] fun v1409 h971 =>
        ext v1409 0 fun _ =>
        ext v1409 1 fun v1411 =>
        asI .i64 v1411 fun n1207 =>
        asI .i64 (gv ws196 1) fun n1208 =>
        eqv Try.prog 4 (.bool (eq n1207 0)) (.bool (le 0 n1208)) fun q164 =>
        ifB (not q164) (
          out .ret [(.bool false), gv ws196 1] h971) (
          asI .i64 (gv ws196 1) fun n1209 =>
          out .normal [gv ws196 0, (.int .i64 (add .i64 n1209 1))] h971)) (
        none))) (
    out (.exit 2) [gv ws196 0, gv ws196 1] h949)

noncomputable def f16_l103 (_rec : Rec) (_k : Nat) (n2 : Int) (ws202 : List Value) (h977 : H) (v1426 : Value) (n1219 : Int) (ws203 : List Value) (h981 : H) : Option (Ex × List Value × H) :=
  asI .i64 (gv ws203 0) fun n1220 =>
  ifB (lt n1220 n1219) (
    asK (gv ws203 0) fun n1221 =>
    six v1426 n1221 4 fun b156 b157 =>
    ld Try.prog h981 67 b156 b157 fun v1427 =>
    al h981 67 [(.int .i64 0), (.int .i64 0), (.int .i64 0), (.int .i64 0)] fun h982 =>
    st Try.prog h982 67 (nx h981) 0 v1427 fun h983 =>
    asK (gv ws203 0) fun n1222 =>
    nn n1222 (
      ifB (eq (and .i64 (shr .i64 n2 n1222) 1) 1) (
        asI .i64 (gv ws203 0) fun n1223 =>
        asI .i64 (gv ws202 1) fun n1224 =>
        ifB (not (eq n1223 n1224)) (
          ld Try.prog h983 50 (nx h977) (off 0 2) fun v1428 =>
          ld Try.prog h983 67 (nx h981) 0 fun v1429 =>
          bls Try.prog h983 50 1 [(0, v1429)] fun v1430 h984 =>
          app Try.prog h984 50 50 v1428 v1430 fun v1431 h985 =>
          st Try.prog h985 50 (nx h977) (off 0 2) v1431 fun h986 =>
          asI .i64 (gv ws203 0) fun n1225 =>
          out .normal [(.int .i64 (add .i64 n1225 1))] h986) (
          asI .i64 (gv ws203 0) fun n1226 =>
          out .normal [(.int .i64 (add .i64 n1226 1))] h983)) (
        asI .i64 (gv ws203 0) fun n1227 =>
        out .normal [(.int .i64 (add .i64 n1227 1))] h983))) (
    out (.exit 4) [gv ws203 0] h981)

noncomputable def f16_l104 (_rec : Rec) (_k : Nat) (n2 : Int) (ws202 : List Value) (h977 : H) (v1441 : Value) (n1233 : Int) (ws205 : List Value) (h992 : H) : Option (Ex × List Value × H) :=
  asI .i64 (gv ws205 0) fun n1234 =>
  ifB (lt n1234 n1233) (
    asK (gv ws205 0) fun n1235 =>
    six v1441 n1235 4 fun b158 b159 =>
    ld Try.prog h992 67 b158 b159 fun v1442 =>
    al h992 67 [(.int .i64 0), (.int .i64 0), (.int .i64 0), (.int .i64 0)] fun h993 =>
    st Try.prog h993 67 (nx h992) 0 v1442 fun h994 =>
    asK (gv ws205 0) fun n1236 =>
    nn n1236 (
      ifB (eq (and .i64 (shr .i64 n2 n1236) 1) 1) (
        asI .i64 (gv ws205 0) fun n1237 =>
        asI .i64 (gv ws202 1) fun n1238 =>
        ifB (not (eq n1237 n1238)) (
          ld Try.prog h994 50 (nx h977) (off 0 2) fun v1443 =>
          ld Try.prog h994 67 (nx h992) 0 fun v1444 =>
          bls Try.prog h994 50 1 [(0, v1444)] fun v1445 h995 =>
          app Try.prog h995 50 50 v1443 v1445 fun v1446 h996 =>
          st Try.prog h996 50 (nx h977) (off 0 2) v1446 fun h997 =>
          asI .i64 (gv ws205 0) fun n1239 =>
          out .normal [(.int .i64 (add .i64 n1239 1))] h997) (
          asI .i64 (gv ws205 0) fun n1240 =>
          out .normal [(.int .i64 (add .i64 n1240 1))] h994)) (
        asI .i64 (gv ws205 0) fun n1241 =>
        out .normal [(.int .i64 (add .i64 n1241 1))] h994))) (
    out (.exit 4) [gv ws205 0] h992)

noncomputable def f16_l102 (rec : Rec) (k : Nat) (h0 : H) (n2 : Int) (ws202 : List Value) (h977 : H) : Option (Ex × List Value × H) :=
  ld Try.prog h977 45 (nx h0) (off 0 2) fun v1420 =>
  len v1420 fun n1212 =>
  asI .i64 (gv ws202 1) fun n1213 =>
  ifB (lt n1213 n1212) (
    asI .i64 (gv ws202 1) fun n1214 =>
    ifB (le 0 n1214) (
      asK (gv ws202 1) fun n1215 =>
      nn n1215 (
        ifB (eq (and .i64 (shr .i64 n2 n1215) 1) 0) (
          asI .i64 (gv ws202 1) fun n1216 =>
          out .normal [gv ws202 0, (.int .i64 (add .i64 n1216 1))] h977) (
          ld Try.prog h977 3 (nx h0) 0 fun v1421 =>
          asI .i64 v1421 fun n1217 =>
          ld Try.prog h977 3 (nx h0) (off 0 1) fun v1422 =>
          asI .i64 v1422 fun n1218 =>
          bld Try.prog 52 [(0, (.int .i64 n1217)), (1, (.int .i64 n1218))] fun v1423 =>
          al h977 52 [(.int .i64 0), (.int .i64 0), (.slice none 0 0)] fun h978 =>
          st Try.prog h978 52 (nx h977) 0 v1423 fun h979 =>
          ld Try.prog h979 47 (nx h0) 0 fun v1424 =>
          calls rec h979 37 [v1424] fun v1425 h980 =>
          fld Try.prog 52 v1425 2 fun v1426 =>
          len v1426 fun n1219 =>
          lp k (f16_l103 rec k n2 ws202 h977 v1426 n1219) [(.int .i64 0)] h980 fun e101 _ h987 =>
          onE e101 4 (
            ld Try.prog h987 52 (nx h977) 0 fun v1432 =>
            calls rec h987 47 [v1432] fun v1433 h988 =>
            ext v1433 0 fun _ =>
            ext v1433 1 fun v1435 =>
            asI .i64 v1435 fun n1228 =>
            asI .i64 (gv ws202 1) fun n1229 =>
            eqv Try.prog 4 (.bool (eq n1228 0)) (.bool (le 0 n1229)) fun q168 =>
            ifB (not q168) (
              out .ret [(.bool false), gv ws202 1] h988) (
              asI .i64 (gv ws202 1) fun n1230 =>
              out .normal [gv ws202 0, (.int .i64 (add .i64 n1230 1))] h988)) (
            none)))) (
      ld Try.prog h977 3 (nx h0) 0 fun v1436 =>
      asI .i64 v1436 fun n1231 =>
      ld Try.prog h977 3 (nx h0) (off 0 1) fun v1437 =>
      asI .i64 v1437 fun n1232 =>
      bld Try.prog 52 [(0, (.int .i64 n1231)), (1, (.int .i64 n1232))] fun v1438 =>
      al h977 52 [(.int .i64 0), (.int .i64 0), (.slice none 0 0)] fun h989 =>
      st Try.prog h989 52 (nx h977) 0 v1438 fun h990 =>
      ld Try.prog h990 47 (nx h0) 0 fun v1439 =>
      calls rec h990 37 [v1439] fun v1440 h991 =>
      fld Try.prog 52 v1440 2 fun v1441 =>
      len v1441 fun n1233 =>
      lp k (f16_l104 rec k n2 ws202 h977 v1441 n1233) [(.int .i64 0)] h991 fun e102 _ h998 =>
      onE e102 4 (
        ld Try.prog h998 52 (nx h977) 0 fun v1447 =>
        calls rec h998 47 [v1447] fun v1448 h999 =>
        ext v1448 0 fun _ =>
        ext v1448 1 fun v1450 =>
        asI .i64 v1450 fun n1242 =>
        asI .i64 (gv ws202 1) fun n1243 =>
        eqv Try.prog 4 (.bool (eq n1242 0)) (.bool (le 0 n1243)) fun q169 =>
        ifB (not q169) (
          out .ret [(.bool false), gv ws202 1] h999) (
          asI .i64 (gv ws202 1) fun n1244 =>
          out .normal [gv ws202 0, (.int .i64 (add .i64 n1244 1))] h999)) (
        none))) (
    out (.exit 2) [gv ws202 0, gv ws202 1] h977)

noncomputable def f16 (rec : Rec) (k : Nat) (v0 : Value) (v1 : Value) (n0 : Int) (v2 : Value) (h0 : H) : Option (Value × H) :=
  bx h0 47 v0 fun h1 =>
  ld Try.prog h1 47 (nx h0) 0 fun v3 =>
  calls rec h1 37 [v3] fun v4 h2 =>
  calls rec h2 47 [v4] fun v5 h3 =>
  ext v5 0 fun v6 =>
  ext v5 1 fun v7 =>
  asI .i64 v7 fun n1 =>
  ld Try.prog h3 47 (nx h0) 0 fun v8 =>
  calls rec h3 37 [v8] fun v9 h4 =>
  calls rec h4 51 [v9] fun v10 h5 =>
  ext v10 0 fun v11 =>
  asI .i64 v11 fun n2 =>
  ext v10 1 fun v12 =>
  asI .i64 v12 fun n3 =>
  ld Try.prog h5 47 (nx h0) 0 fun v13 =>
  calls rec h5 37 [v13] fun v14 h6 =>
  calls rec h6 18 [v1] fun v15 h7 =>
  calls rec h7 48 [v14, v15] fun v16 h8 =>
  ext v16 0 fun v17 =>
  asB v17 fun q0 =>
  ext v16 1 fun v18 =>
  asI .i64 v18 fun n4 =>
  ifB (not (eq n4 0)) (
    ifB (eq n1 2) (
      ifB (eq n3 2) (
        ifB (eq n4 2) (
          calls rec h8 19 [] fun v19 h9 =>
          asB v19 fun q1 =>
          some ((.bool q1), h9)) (
          some ((.bool false), h8))) (
        some ((.bool false), h8))) (
      some ((.bool false), h8))) (
    eqv Try.prog 4 (.bool (eq n1 0)) (.bool (eq n3 4)) fun q2 =>
    ifB (not q2) (
      some ((.bool false), h8)) (
      ifB (not (eq n1 0)) (
        ifB (not (eq n1 4)) (
          some ((.bool false), h8)) (
          ifB (not (eq n3 0)) (
            ifB (not (eq n3 4)) (
              some ((.bool false), h8)) (
              ifB q0 (
                ifB (not (eq n1 0)) (
                  some ((.bool false), h8)) (
                  calls rec h8 18 [v1] fun v20 h10 =>
                  ifB q0 (
                    len v20 fun n5 =>
                    lp k (f16_l1 rec k n0 h0 v20 n5) [(.int .i64 0)] h10 fun e0 _ h13 =>
                    onE e0 0 (
                      ld Try.prog h13 47 (nx h0) 0 fun v24 =>
                      calls rec h13 37 [v24] fun v25 h14 =>
                      calls rec h14 48 [v25, v20] fun v26 h15 =>
                      ext v26 0 fun v27 =>
                      asB v27 fun q3 =>
                      ext v26 1 fun v28 =>
                      asI .i64 v28 fun n13 =>
                      ifB (not q3) (
                        some ((.bool false), h15)) (
                        ifB (not (eq n13 0)) (
                          some ((.bool false), h15)) (
                          ld Try.prog h15 47 (nx h0) 0 fun v29 =>
                          calls rec h15 37 [v29] fun v30 h16 =>
                          calls rec h16 18 [v2] fun v31 h17 =>
                          calls rec h17 36 [v30, v31] fun v32 h18 =>
                          ext v32 0 fun v33 =>
                          asI .i64 v33 fun _ =>
                          ext v32 1 fun v34 =>
                          asI .i64 v34 fun _ =>
                          ext v32 2 fun v35 =>
                          asI .i64 v35 fun n16 =>
                          ifB (eq n16 4) (
                            ifB (eq n1 0) (
                              some ((.bool false), h18)) (
                              ifB (eq n1 0) (
                                ld Try.prog h18 47 (nx h0) 0 fun v36 =>
                                calls rec h18 37 [v36] fun v37 h19 =>
                                calls rec h19 48 [v37, v6] fun v38 h20 =>
                                ext v38 0 fun v39 =>
                                asB v39 fun q4 =>
                                ext v38 1 fun v40 =>
                                asI .i64 v40 fun n17 =>
                                ifB q4 (
                                  ifB (eq n17 0) (
                                    calls rec h20 19 [] fun v41 h21 =>
                                    asB v41 fun q5 =>
                                    some ((.bool q5), h21)) (
                                    some ((.bool false), h20))) (
                                  some ((.bool false), h20))) (
                                ifB (lt n2 1) (
                                  some ((.bool false), h18)) (
                                  ld Try.prog h18 45 (nx h0) (off 0 2) fun v42 =>
                                  len v42 fun n18 =>
                                  nn n18 (
                                    ifB (le (shl .i64 1 n18) n2) (
                                      some ((.bool false), h18)) (
                                      lp k (f16_l2 rec k h0 n2) [(.bool false), (.int .i64 (-1))] h18 fun e3 ws7 h45 =>
                                      onE e3 2 (
                                        calls rec h45 19 [] fun v74 h46 =>
                                        asB v74 fun q8 =>
                                        some ((.bool q8), h46)) (
                                        onR e3 (
                                          some (gv ws7 0, h45))))))))) (
                            ifB (eq n1 0) (
                              ld Try.prog h18 47 (nx h0) 0 fun v75 =>
                              calls rec h18 37 [v75] fun v76 h47 =>
                              calls rec h47 48 [v76, v6] fun v77 h48 =>
                              ext v77 0 fun v78 =>
                              asB v78 fun q9 =>
                              ext v77 1 fun v79 =>
                              asI .i64 v79 fun n52 =>
                              ifB q9 (
                                ifB (eq n52 0) (
                                  calls rec h48 19 [] fun v80 h49 =>
                                  asB v80 fun q10 =>
                                  some ((.bool q10), h49)) (
                                  some ((.bool false), h48))) (
                                some ((.bool false), h48))) (
                              ifB (lt n2 1) (
                                some ((.bool false), h18)) (
                                ld Try.prog h18 45 (nx h0) (off 0 2) fun v81 =>
                                len v81 fun n53 =>
                                nn n53 (
                                  ifB (le (shl .i64 1 n53) n2) (
                                    some ((.bool false), h18)) (
                                    lp k (f16_l5 rec k h0 n2) [(.bool false), (.int .i64 (-1))] h18 fun e6 ws13 h73 =>
                                    onE e6 2 (
                                      calls rec h73 19 [] fun v113 h74 =>
                                      asB v113 fun q13 =>
                                      some ((.bool q13), h74)) (
                                      onR e6 (
                                        some (gv ws13 0, h73))))))))))) (
                      none)) (
                    ld Try.prog h10 47 (nx h0) 0 fun v114 =>
                    calls rec h10 37 [v114] fun v115 h75 =>
                    calls rec h75 18 [v2] fun v116 h76 =>
                    calls rec h76 36 [v115, v116] fun v117 h77 =>
                    ext v117 0 fun v118 =>
                    asI .i64 v118 fun _ =>
                    ext v117 1 fun v119 =>
                    asI .i64 v119 fun _ =>
                    ext v117 2 fun v120 =>
                    asI .i64 v120 fun n89 =>
                    ifB (eq n89 4) (
                      ifB (eq n1 0) (
                        some ((.bool false), h77)) (
                        ifB (eq n1 0) (
                          ld Try.prog h77 47 (nx h0) 0 fun v121 =>
                          calls rec h77 37 [v121] fun v122 h78 =>
                          calls rec h78 48 [v122, v6] fun v123 h79 =>
                          ext v123 0 fun v124 =>
                          asB v124 fun q14 =>
                          ext v123 1 fun v125 =>
                          asI .i64 v125 fun n90 =>
                          ifB q14 (
                            ifB (eq n90 0) (
                              calls rec h79 19 [] fun v126 h80 =>
                              asB v126 fun q15 =>
                              some ((.bool q15), h80)) (
                              some ((.bool false), h79))) (
                            some ((.bool false), h79))) (
                          ifB (lt n2 1) (
                            some ((.bool false), h77)) (
                            ld Try.prog h77 45 (nx h0) (off 0 2) fun v127 =>
                            len v127 fun n91 =>
                            nn n91 (
                              ifB (le (shl .i64 1 n91) n2) (
                                some ((.bool false), h77)) (
                                lp k (f16_l8 rec k h0 n2) [(.bool false), (.int .i64 (-1))] h77 fun e9 ws19 h104 =>
                                onE e9 2 (
                                  calls rec h104 19 [] fun v159 h105 =>
                                  asB v159 fun q18 =>
                                  some ((.bool q18), h105)) (
                                  onR e9 (
                                    some (gv ws19 0, h104))))))))) (
                      ifB (eq n1 0) (
                        ld Try.prog h77 47 (nx h0) 0 fun v160 =>
                        calls rec h77 37 [v160] fun v161 h106 =>
                        calls rec h106 48 [v161, v6] fun v162 h107 =>
                        ext v162 0 fun v163 =>
                        asB v163 fun q19 =>
                        ext v162 1 fun v164 =>
                        asI .i64 v164 fun n125 =>
                        ifB q19 (
                          ifB (eq n125 0) (
                            calls rec h107 19 [] fun v165 h108 =>
                            asB v165 fun q20 =>
                            some ((.bool q20), h108)) (
                            some ((.bool false), h107))) (
                          some ((.bool false), h107))) (
                        ifB (lt n2 1) (
                          some ((.bool false), h77)) (
                          ld Try.prog h77 45 (nx h0) (off 0 2) fun v166 =>
                          len v166 fun n126 =>
                          nn n126 (
                            ifB (le (shl .i64 1 n126) n2) (
                              some ((.bool false), h77)) (
                              lp k (f16_l11 rec k h0 n2) [(.bool false), (.int .i64 (-1))] h77 fun e12 ws25 h132 =>
                              onE e12 2 (
                                calls rec h132 19 [] fun v198 h133 =>
                                asB v198 fun q23 =>
                                some ((.bool q23), h133)) (
                                onR e12 (
                                  some (gv ws25 0, h132))))))))))) (
                calls rec h8 18 [v1] fun v199 h134 =>
                ifB q0 (
                  len v199 fun n160 =>
                  lp k (f16_l14 rec k n0 h0 v199 n160) [(.int .i64 0)] h134 fun e13 _ h137 =>
                  onE e13 0 (
                    ld Try.prog h137 47 (nx h0) 0 fun v203 =>
                    calls rec h137 37 [v203] fun v204 h138 =>
                    calls rec h138 48 [v204, v199] fun v205 h139 =>
                    ext v205 0 fun v206 =>
                    asB v206 fun q24 =>
                    ext v205 1 fun v207 =>
                    asI .i64 v207 fun n168 =>
                    ifB (not q24) (
                      some ((.bool false), h139)) (
                      ifB (not (eq n168 0)) (
                        some ((.bool false), h139)) (
                        ld Try.prog h139 47 (nx h0) 0 fun v208 =>
                        calls rec h139 37 [v208] fun v209 h140 =>
                        calls rec h140 18 [v2] fun v210 h141 =>
                        calls rec h141 36 [v209, v210] fun v211 h142 =>
                        ext v211 0 fun v212 =>
                        asI .i64 v212 fun _ =>
                        ext v211 1 fun v213 =>
                        asI .i64 v213 fun _ =>
                        ext v211 2 fun v214 =>
                        asI .i64 v214 fun n171 =>
                        ifB (eq n171 4) (
                          ifB (eq n1 0) (
                            some ((.bool false), h142)) (
                            ifB (eq n1 0) (
                              ld Try.prog h142 47 (nx h0) 0 fun v215 =>
                              calls rec h142 37 [v215] fun v216 h143 =>
                              calls rec h143 48 [v216, v6] fun v217 h144 =>
                              ext v217 0 fun v218 =>
                              asB v218 fun q25 =>
                              ext v217 1 fun v219 =>
                              asI .i64 v219 fun n172 =>
                              ifB q25 (
                                ifB (eq n172 0) (
                                  calls rec h144 19 [] fun v220 h145 =>
                                  asB v220 fun q26 =>
                                  some ((.bool q26), h145)) (
                                  some ((.bool false), h144))) (
                                some ((.bool false), h144))) (
                              ifB (lt n2 1) (
                                some ((.bool false), h142)) (
                                ld Try.prog h142 45 (nx h0) (off 0 2) fun v221 =>
                                len v221 fun n173 =>
                                nn n173 (
                                  ifB (le (shl .i64 1 n173) n2) (
                                    some ((.bool false), h142)) (
                                    lp k (f16_l15 rec k h0 n2) [(.bool false), (.int .i64 (-1))] h142 fun e16 ws33 h169 =>
                                    onE e16 2 (
                                      calls rec h169 19 [] fun v253 h170 =>
                                      asB v253 fun q29 =>
                                      some ((.bool q29), h170)) (
                                      onR e16 (
                                        some (gv ws33 0, h169))))))))) (
                          ifB (eq n1 0) (
                            ld Try.prog h142 47 (nx h0) 0 fun v254 =>
                            calls rec h142 37 [v254] fun v255 h171 =>
                            calls rec h171 48 [v255, v6] fun v256 h172 =>
                            ext v256 0 fun v257 =>
                            asB v257 fun q30 =>
                            ext v256 1 fun v258 =>
                            asI .i64 v258 fun n207 =>
                            ifB q30 (
                              ifB (eq n207 0) (
                                calls rec h172 19 [] fun v259 h173 =>
                                asB v259 fun q31 =>
                                some ((.bool q31), h173)) (
                                some ((.bool false), h172))) (
                              some ((.bool false), h172))) (
                            ifB (lt n2 1) (
                              some ((.bool false), h142)) (
                              ld Try.prog h142 45 (nx h0) (off 0 2) fun v260 =>
                              len v260 fun n208 =>
                              nn n208 (
                                ifB (le (shl .i64 1 n208) n2) (
                                  some ((.bool false), h142)) (
                                  lp k (f16_l18 rec k h0 n2) [(.bool false), (.int .i64 (-1))] h142 fun e19 ws39 h197 =>
                                  onE e19 2 (
                                    calls rec h197 19 [] fun v292 h198 =>
                                    asB v292 fun q34 =>
                                    some ((.bool q34), h198)) (
                                    onR e19 (
                                      some (gv ws39 0, h197))))))))))) (
                    none)) (
                  ld Try.prog h134 47 (nx h0) 0 fun v293 =>
                  calls rec h134 37 [v293] fun v294 h199 =>
                  calls rec h199 18 [v2] fun v295 h200 =>
                  calls rec h200 36 [v294, v295] fun v296 h201 =>
                  ext v296 0 fun v297 =>
                  asI .i64 v297 fun _ =>
                  ext v296 1 fun v298 =>
                  asI .i64 v298 fun _ =>
                  ext v296 2 fun v299 =>
                  asI .i64 v299 fun n244 =>
                  ifB (eq n244 4) (
                    ifB (eq n1 0) (
                      some ((.bool false), h201)) (
                      ifB (eq n1 0) (
                        ld Try.prog h201 47 (nx h0) 0 fun v300 =>
                        calls rec h201 37 [v300] fun v301 h202 =>
                        calls rec h202 48 [v301, v6] fun v302 h203 =>
                        ext v302 0 fun v303 =>
                        asB v303 fun q35 =>
                        ext v302 1 fun v304 =>
                        asI .i64 v304 fun n245 =>
                        ifB q35 (
                          ifB (eq n245 0) (
                            calls rec h203 19 [] fun v305 h204 =>
                            asB v305 fun q36 =>
                            some ((.bool q36), h204)) (
                            some ((.bool false), h203))) (
                          some ((.bool false), h203))) (
                        ifB (lt n2 1) (
                          some ((.bool false), h201)) (
                          ld Try.prog h201 45 (nx h0) (off 0 2) fun v306 =>
                          len v306 fun n246 =>
                          nn n246 (
                            ifB (le (shl .i64 1 n246) n2) (
                              some ((.bool false), h201)) (
                              lp k (f16_l21 rec k h0 n2) [(.bool false), (.int .i64 (-1))] h201 fun e22 ws45 h228 =>
                              onE e22 2 (
                                calls rec h228 19 [] fun v338 h229 =>
                                asB v338 fun q39 =>
                                some ((.bool q39), h229)) (
                                onR e22 (
                                  some (gv ws45 0, h228))))))))) (
                    ifB (eq n1 0) (
                      ld Try.prog h201 47 (nx h0) 0 fun v339 =>
                      calls rec h201 37 [v339] fun v340 h230 =>
                      calls rec h230 48 [v340, v6] fun v341 h231 =>
                      ext v341 0 fun v342 =>
                      asB v342 fun q40 =>
                      ext v341 1 fun v343 =>
                      asI .i64 v343 fun n280 =>
                      ifB q40 (
                        ifB (eq n280 0) (
                          calls rec h231 19 [] fun v344 h232 =>
                          asB v344 fun q41 =>
                          some ((.bool q41), h232)) (
                          some ((.bool false), h231))) (
                        some ((.bool false), h231))) (
                      ifB (lt n2 1) (
                        some ((.bool false), h201)) (
                        ld Try.prog h201 45 (nx h0) (off 0 2) fun v345 =>
                        len v345 fun n281 =>
                        nn n281 (
                          ifB (le (shl .i64 1 n281) n2) (
                            some ((.bool false), h201)) (
                            lp k (f16_l24 rec k h0 n2) [(.bool false), (.int .i64 (-1))] h201 fun e25 ws51 h256 =>
                            onE e25 2 (
                              calls rec h256 19 [] fun v377 h257 =>
                              asB v377 fun q44 =>
                              some ((.bool q44), h257)) (
                              onR e25 (
                                some (gv ws51 0, h256)))))))))))) (
            ifB q0 (
              ifB (not (eq n1 0)) (
                some ((.bool false), h8)) (
                calls rec h8 18 [v1] fun v378 h258 =>
                ifB q0 (
                  len v378 fun n315 =>
                  lp k (f16_l27 rec k n0 h0 v378 n315) [(.int .i64 0)] h258 fun e26 _ h261 =>
                  onE e26 0 (
                    ld Try.prog h261 47 (nx h0) 0 fun v382 =>
                    calls rec h261 37 [v382] fun v383 h262 =>
                    calls rec h262 48 [v383, v378] fun v384 h263 =>
                    ext v384 0 fun v385 =>
                    asB v385 fun q45 =>
                    ext v384 1 fun v386 =>
                    asI .i64 v386 fun n323 =>
                    ifB (not q45) (
                      some ((.bool false), h263)) (
                      ifB (not (eq n323 0)) (
                        some ((.bool false), h263)) (
                        ld Try.prog h263 47 (nx h0) 0 fun v387 =>
                        calls rec h263 37 [v387] fun v388 h264 =>
                        calls rec h264 18 [v2] fun v389 h265 =>
                        calls rec h265 36 [v388, v389] fun v390 h266 =>
                        ext v390 0 fun v391 =>
                        asI .i64 v391 fun _ =>
                        ext v390 1 fun v392 =>
                        asI .i64 v392 fun _ =>
                        ext v390 2 fun v393 =>
                        asI .i64 v393 fun n326 =>
                        ifB (eq n326 4) (
                          ifB (eq n1 0) (
                            some ((.bool false), h266)) (
                            ifB (eq n1 0) (
                              ld Try.prog h266 47 (nx h0) 0 fun v394 =>
                              calls rec h266 37 [v394] fun v395 h267 =>
                              calls rec h267 48 [v395, v6] fun v396 h268 =>
                              ext v396 0 fun v397 =>
                              asB v397 fun q46 =>
                              ext v396 1 fun v398 =>
                              asI .i64 v398 fun n327 =>
                              ifB q46 (
                                ifB (eq n327 0) (
                                  calls rec h268 19 [] fun v399 h269 =>
                                  asB v399 fun q47 =>
                                  some ((.bool q47), h269)) (
                                  some ((.bool false), h268))) (
                                some ((.bool false), h268))) (
                              ifB (lt n2 1) (
                                some ((.bool false), h266)) (
                                ld Try.prog h266 45 (nx h0) (off 0 2) fun v400 =>
                                len v400 fun n328 =>
                                nn n328 (
                                  ifB (le (shl .i64 1 n328) n2) (
                                    some ((.bool false), h266)) (
                                    lp k (f16_l28 rec k h0 n2) [(.bool false), (.int .i64 (-1))] h266 fun e29 ws59 h293 =>
                                    onE e29 2 (
                                      calls rec h293 19 [] fun v432 h294 =>
                                      asB v432 fun q50 =>
                                      some ((.bool q50), h294)) (
                                      onR e29 (
                                        some (gv ws59 0, h293))))))))) (
                          ifB (eq n1 0) (
                            ld Try.prog h266 47 (nx h0) 0 fun v433 =>
                            calls rec h266 37 [v433] fun v434 h295 =>
                            calls rec h295 48 [v434, v6] fun v435 h296 =>
                            ext v435 0 fun v436 =>
                            asB v436 fun q51 =>
                            ext v435 1 fun v437 =>
                            asI .i64 v437 fun n362 =>
                            ifB q51 (
                              ifB (eq n362 0) (
                                calls rec h296 19 [] fun v438 h297 =>
                                asB v438 fun q52 =>
                                some ((.bool q52), h297)) (
                                some ((.bool false), h296))) (
                              some ((.bool false), h296))) (
                            ifB (lt n2 1) (
                              some ((.bool false), h266)) (
                              ld Try.prog h266 45 (nx h0) (off 0 2) fun v439 =>
                              len v439 fun n363 =>
                              nn n363 (
                                ifB (le (shl .i64 1 n363) n2) (
                                  some ((.bool false), h266)) (
                                  lp k (f16_l31 rec k h0 n2) [(.bool false), (.int .i64 (-1))] h266 fun e32 ws65 h321 =>
                                  onE e32 2 (
                                    calls rec h321 19 [] fun v471 h322 =>
                                    asB v471 fun q55 =>
                                    some ((.bool q55), h322)) (
                                    onR e32 (
                                      some (gv ws65 0, h321))))))))))) (
                    none)) (
                  ld Try.prog h258 47 (nx h0) 0 fun v472 =>
                  calls rec h258 37 [v472] fun v473 h323 =>
                  calls rec h323 18 [v2] fun v474 h324 =>
                  calls rec h324 36 [v473, v474] fun v475 h325 =>
                  ext v475 0 fun v476 =>
                  asI .i64 v476 fun _ =>
                  ext v475 1 fun v477 =>
                  asI .i64 v477 fun _ =>
                  ext v475 2 fun v478 =>
                  asI .i64 v478 fun n399 =>
                  ifB (eq n399 4) (
                    ifB (eq n1 0) (
                      some ((.bool false), h325)) (
                      ifB (eq n1 0) (
                        ld Try.prog h325 47 (nx h0) 0 fun v479 =>
                        calls rec h325 37 [v479] fun v480 h326 =>
                        calls rec h326 48 [v480, v6] fun v481 h327 =>
                        ext v481 0 fun v482 =>
                        asB v482 fun q56 =>
                        ext v481 1 fun v483 =>
                        asI .i64 v483 fun n400 =>
                        ifB q56 (
                          ifB (eq n400 0) (
                            calls rec h327 19 [] fun v484 h328 =>
                            asB v484 fun q57 =>
                            some ((.bool q57), h328)) (
                            some ((.bool false), h327))) (
                          some ((.bool false), h327))) (
                        ifB (lt n2 1) (
                          some ((.bool false), h325)) (
                          ld Try.prog h325 45 (nx h0) (off 0 2) fun v485 =>
                          len v485 fun n401 =>
                          nn n401 (
                            ifB (le (shl .i64 1 n401) n2) (
                              some ((.bool false), h325)) (
                              lp k (f16_l34 rec k h0 n2) [(.bool false), (.int .i64 (-1))] h325 fun e35 ws71 h352 =>
                              onE e35 2 (
                                calls rec h352 19 [] fun v517 h353 =>
                                asB v517 fun q60 =>
                                some ((.bool q60), h353)) (
                                onR e35 (
                                  some (gv ws71 0, h352))))))))) (
                    ifB (eq n1 0) (
                      ld Try.prog h325 47 (nx h0) 0 fun v518 =>
                      calls rec h325 37 [v518] fun v519 h354 =>
                      calls rec h354 48 [v519, v6] fun v520 h355 =>
                      ext v520 0 fun v521 =>
                      asB v521 fun q61 =>
                      ext v520 1 fun v522 =>
                      asI .i64 v522 fun n435 =>
                      ifB q61 (
                        ifB (eq n435 0) (
                          calls rec h355 19 [] fun v523 h356 =>
                          asB v523 fun q62 =>
                          some ((.bool q62), h356)) (
                          some ((.bool false), h355))) (
                        some ((.bool false), h355))) (
                      ifB (lt n2 1) (
                        some ((.bool false), h325)) (
                        ld Try.prog h325 45 (nx h0) (off 0 2) fun v524 =>
                        len v524 fun n436 =>
                        nn n436 (
                          ifB (le (shl .i64 1 n436) n2) (
                            some ((.bool false), h325)) (
                            lp k (f16_l37 rec k h0 n2) [(.bool false), (.int .i64 (-1))] h325 fun e38 ws77 h380 =>
                            onE e38 2 (
                              calls rec h380 19 [] fun v556 h381 =>
                              asB v556 fun q65 =>
                              some ((.bool q65), h381)) (
                              onR e38 (
                                some (gv ws77 0, h380))))))))))) (
              calls rec h8 18 [v1] fun v557 h382 =>
              ifB q0 (
                len v557 fun n470 =>
                lp k (f16_l40 rec k n0 h0 v557 n470) [(.int .i64 0)] h382 fun e39 _ h385 =>
                onE e39 0 (
                  ld Try.prog h385 47 (nx h0) 0 fun v561 =>
                  calls rec h385 37 [v561] fun v562 h386 =>
                  calls rec h386 48 [v562, v557] fun v563 h387 =>
                  ext v563 0 fun v564 =>
                  asB v564 fun q66 =>
                  ext v563 1 fun v565 =>
                  asI .i64 v565 fun n478 =>
                  ifB (not q66) (
                    some ((.bool false), h387)) (
                    ifB (not (eq n478 0)) (
                      some ((.bool false), h387)) (
                      ld Try.prog h387 47 (nx h0) 0 fun v566 =>
                      calls rec h387 37 [v566] fun v567 h388 =>
                      calls rec h388 18 [v2] fun v568 h389 =>
                      calls rec h389 36 [v567, v568] fun v569 h390 =>
                      ext v569 0 fun v570 =>
                      asI .i64 v570 fun _ =>
                      ext v569 1 fun v571 =>
                      asI .i64 v571 fun _ =>
                      ext v569 2 fun v572 =>
                      asI .i64 v572 fun n481 =>
                      ifB (eq n481 4) (
                        ifB (eq n1 0) (
                          some ((.bool false), h390)) (
                          ifB (eq n1 0) (
                            ld Try.prog h390 47 (nx h0) 0 fun v573 =>
                            calls rec h390 37 [v573] fun v574 h391 =>
                            calls rec h391 48 [v574, v6] fun v575 h392 =>
                            ext v575 0 fun v576 =>
                            asB v576 fun q67 =>
                            ext v575 1 fun v577 =>
                            asI .i64 v577 fun n482 =>
                            ifB q67 (
                              ifB (eq n482 0) (
                                calls rec h392 19 [] fun v578 h393 =>
                                asB v578 fun q68 =>
                                some ((.bool q68), h393)) (
                                some ((.bool false), h392))) (
                              some ((.bool false), h392))) (
                            ifB (lt n2 1) (
                              some ((.bool false), h390)) (
                              ld Try.prog h390 45 (nx h0) (off 0 2) fun v579 =>
                              len v579 fun n483 =>
                              nn n483 (
                                ifB (le (shl .i64 1 n483) n2) (
                                  some ((.bool false), h390)) (
                                  lp k (f16_l41 rec k h0 n2) [(.bool false), (.int .i64 (-1))] h390 fun e42 ws85 h417 =>
                                  onE e42 2 (
                                    calls rec h417 19 [] fun v611 h418 =>
                                    asB v611 fun q71 =>
                                    some ((.bool q71), h418)) (
                                    onR e42 (
                                      some (gv ws85 0, h417))))))))) (
                        ifB (eq n1 0) (
                          ld Try.prog h390 47 (nx h0) 0 fun v612 =>
                          calls rec h390 37 [v612] fun v613 h419 =>
                          calls rec h419 48 [v613, v6] fun v614 h420 =>
                          ext v614 0 fun v615 =>
                          asB v615 fun q72 =>
                          ext v614 1 fun v616 =>
                          asI .i64 v616 fun n517 =>
                          ifB q72 (
                            ifB (eq n517 0) (
                              calls rec h420 19 [] fun v617 h421 =>
                              asB v617 fun q73 =>
                              some ((.bool q73), h421)) (
                              some ((.bool false), h420))) (
                            some ((.bool false), h420))) (
                          ifB (lt n2 1) (
                            some ((.bool false), h390)) (
                            ld Try.prog h390 45 (nx h0) (off 0 2) fun v618 =>
                            len v618 fun n518 =>
                            nn n518 (
                              ifB (le (shl .i64 1 n518) n2) (
                                some ((.bool false), h390)) (
                                lp k (f16_l44 rec k h0 n2) [(.bool false), (.int .i64 (-1))] h390 fun e45 ws91 h445 =>
                                onE e45 2 (
                                  calls rec h445 19 [] fun v650 h446 =>
                                  asB v650 fun q76 =>
                                  some ((.bool q76), h446)) (
                                  onR e45 (
                                    some (gv ws91 0, h445))))))))))) (
                  none)) (
                ld Try.prog h382 47 (nx h0) 0 fun v651 =>
                calls rec h382 37 [v651] fun v652 h447 =>
                calls rec h447 18 [v2] fun v653 h448 =>
                calls rec h448 36 [v652, v653] fun v654 h449 =>
                ext v654 0 fun v655 =>
                asI .i64 v655 fun _ =>
                ext v654 1 fun v656 =>
                asI .i64 v656 fun _ =>
                ext v654 2 fun v657 =>
                asI .i64 v657 fun n554 =>
                ifB (eq n554 4) (
                  ifB (eq n1 0) (
                    some ((.bool false), h449)) (
                    ifB (eq n1 0) (
                      ld Try.prog h449 47 (nx h0) 0 fun v658 =>
                      calls rec h449 37 [v658] fun v659 h450 =>
                      calls rec h450 48 [v659, v6] fun v660 h451 =>
                      ext v660 0 fun v661 =>
                      asB v661 fun q77 =>
                      ext v660 1 fun v662 =>
                      asI .i64 v662 fun n555 =>
                      ifB q77 (
                        ifB (eq n555 0) (
                          calls rec h451 19 [] fun v663 h452 =>
                          asB v663 fun q78 =>
                          some ((.bool q78), h452)) (
                          some ((.bool false), h451))) (
                        some ((.bool false), h451))) (
                      ifB (lt n2 1) (
                        some ((.bool false), h449)) (
                        ld Try.prog h449 45 (nx h0) (off 0 2) fun v664 =>
                        len v664 fun n556 =>
                        nn n556 (
                          ifB (le (shl .i64 1 n556) n2) (
                            some ((.bool false), h449)) (
                            lp k (f16_l47 rec k h0 n2) [(.bool false), (.int .i64 (-1))] h449 fun e48 ws97 h476 =>
                            onE e48 2 (
                              calls rec h476 19 [] fun v696 h477 =>
                              asB v696 fun q81 =>
                              some ((.bool q81), h477)) (
                              onR e48 (
                                some (gv ws97 0, h476))))))))) (
                  ifB (eq n1 0) (
                    ld Try.prog h449 47 (nx h0) 0 fun v697 =>
                    calls rec h449 37 [v697] fun v698 h478 =>
                    calls rec h478 48 [v698, v6] fun v699 h479 =>
                    ext v699 0 fun v700 =>
                    asB v700 fun q82 =>
                    ext v699 1 fun v701 =>
                    asI .i64 v701 fun n590 =>
                    ifB q82 (
                      ifB (eq n590 0) (
                        calls rec h479 19 [] fun v702 h480 =>
                        asB v702 fun q83 =>
                        some ((.bool q83), h480)) (
                        some ((.bool false), h479))) (
                      some ((.bool false), h479))) (
                    ifB (lt n2 1) (
                      some ((.bool false), h449)) (
                      ld Try.prog h449 45 (nx h0) (off 0 2) fun v703 =>
                      len v703 fun n591 =>
                      nn n591 (
                        ifB (le (shl .i64 1 n591) n2) (
                          some ((.bool false), h449)) (
                          lp k (f16_l50 rec k h0 n2) [(.bool false), (.int .i64 (-1))] h449 fun e51 ws103 h504 =>
                          onE e51 2 (
                            calls rec h504 19 [] fun v735 h505 =>
                            asB v735 fun q86 =>
                            some ((.bool q86), h505)) (
                            onR e51 (
                              some (gv ws103 0, h504))))))))))))) (
        ifB (not (eq n3 0)) (
          ifB (not (eq n3 4)) (
            some ((.bool false), h8)) (
            ifB q0 (
              ifB (not (eq n1 0)) (
                some ((.bool false), h8)) (
                calls rec h8 18 [v1] fun v736 h506 =>
                ifB q0 (
                  len v736 fun n625 =>
                  lp k (f16_l53 rec k n0 h0 v736 n625) [(.int .i64 0)] h506 fun e52 _ h509 =>
                  onE e52 0 (
                    ld Try.prog h509 47 (nx h0) 0 fun v740 =>
                    calls rec h509 37 [v740] fun v741 h510 =>
                    calls rec h510 48 [v741, v736] fun v742 h511 =>
                    ext v742 0 fun v743 =>
                    asB v743 fun q87 =>
                    ext v742 1 fun v744 =>
                    asI .i64 v744 fun n633 =>
                    ifB (not q87) (
                      some ((.bool false), h511)) (
                      ifB (not (eq n633 0)) (
                        some ((.bool false), h511)) (
                        ld Try.prog h511 47 (nx h0) 0 fun v745 =>
                        calls rec h511 37 [v745] fun v746 h512 =>
                        calls rec h512 18 [v2] fun v747 h513 =>
                        calls rec h513 36 [v746, v747] fun v748 h514 =>
                        ext v748 0 fun v749 =>
                        asI .i64 v749 fun _ =>
                        ext v748 1 fun v750 =>
                        asI .i64 v750 fun _ =>
                        ext v748 2 fun v751 =>
                        asI .i64 v751 fun n636 =>
                        ifB (eq n636 4) (
                          ifB (eq n1 0) (
                            some ((.bool false), h514)) (
                            ifB (eq n1 0) (
                              ld Try.prog h514 47 (nx h0) 0 fun v752 =>
                              calls rec h514 37 [v752] fun v753 h515 =>
                              calls rec h515 48 [v753, v6] fun v754 h516 =>
                              ext v754 0 fun v755 =>
                              asB v755 fun q88 =>
                              ext v754 1 fun v756 =>
                              asI .i64 v756 fun n637 =>
                              ifB q88 (
                                ifB (eq n637 0) (
                                  calls rec h516 19 [] fun v757 h517 =>
                                  asB v757 fun q89 =>
                                  some ((.bool q89), h517)) (
                                  some ((.bool false), h516))) (
                                some ((.bool false), h516))) (
                              ifB (lt n2 1) (
                                some ((.bool false), h514)) (
                                ld Try.prog h514 45 (nx h0) (off 0 2) fun v758 =>
                                len v758 fun n638 =>
                                nn n638 (
                                  ifB (le (shl .i64 1 n638) n2) (
                                    some ((.bool false), h514)) (
                                    lp k (f16_l54 rec k h0 n2) [(.bool false), (.int .i64 (-1))] h514 fun e55 ws111 h541 =>
                                    onE e55 2 (
                                      calls rec h541 19 [] fun v790 h542 =>
                                      asB v790 fun q92 =>
                                      some ((.bool q92), h542)) (
                                      onR e55 (
                                        some (gv ws111 0, h541))))))))) (
                          ifB (eq n1 0) (
                            ld Try.prog h514 47 (nx h0) 0 fun v791 =>
                            calls rec h514 37 [v791] fun v792 h543 =>
                            calls rec h543 48 [v792, v6] fun v793 h544 =>
                            ext v793 0 fun v794 =>
                            asB v794 fun q93 =>
                            ext v793 1 fun v795 =>
                            asI .i64 v795 fun n672 =>
                            ifB q93 (
                              ifB (eq n672 0) (
                                calls rec h544 19 [] fun v796 h545 =>
                                asB v796 fun q94 =>
                                some ((.bool q94), h545)) (
                                some ((.bool false), h544))) (
                              some ((.bool false), h544))) (
                            ifB (lt n2 1) (
                              some ((.bool false), h514)) (
                              ld Try.prog h514 45 (nx h0) (off 0 2) fun v797 =>
                              len v797 fun n673 =>
                              nn n673 (
                                ifB (le (shl .i64 1 n673) n2) (
                                  some ((.bool false), h514)) (
                                  lp k (f16_l57 rec k h0 n2) [(.bool false), (.int .i64 (-1))] h514 fun e58 ws117 h569 =>
                                  onE e58 2 (
                                    calls rec h569 19 [] fun v829 h570 =>
                                    asB v829 fun q97 =>
                                    some ((.bool q97), h570)) (
                                    onR e58 (
                                      some (gv ws117 0, h569))))))))))) (
                    none)) (
                  ld Try.prog h506 47 (nx h0) 0 fun v830 =>
                  calls rec h506 37 [v830] fun v831 h571 =>
                  calls rec h571 18 [v2] fun v832 h572 =>
                  calls rec h572 36 [v831, v832] fun v833 h573 =>
                  ext v833 0 fun v834 =>
                  asI .i64 v834 fun _ =>
                  ext v833 1 fun v835 =>
                  asI .i64 v835 fun _ =>
                  ext v833 2 fun v836 =>
                  asI .i64 v836 fun n709 =>
                  ifB (eq n709 4) (
                    ifB (eq n1 0) (
                      some ((.bool false), h573)) (
                      ifB (eq n1 0) (
                        ld Try.prog h573 47 (nx h0) 0 fun v837 =>
                        calls rec h573 37 [v837] fun v838 h574 =>
                        calls rec h574 48 [v838, v6] fun v839 h575 =>
                        ext v839 0 fun v840 =>
                        asB v840 fun q98 =>
                        ext v839 1 fun v841 =>
                        asI .i64 v841 fun n710 =>
                        ifB q98 (
                          ifB (eq n710 0) (
                            calls rec h575 19 [] fun v842 h576 =>
                            asB v842 fun q99 =>
                            some ((.bool q99), h576)) (
                            some ((.bool false), h575))) (
                          some ((.bool false), h575))) (
                        ifB (lt n2 1) (
                          some ((.bool false), h573)) (
                          ld Try.prog h573 45 (nx h0) (off 0 2) fun v843 =>
                          len v843 fun n711 =>
                          nn n711 (
                            ifB (le (shl .i64 1 n711) n2) (
                              some ((.bool false), h573)) (
                              lp k (f16_l60 rec k h0 n2) [(.bool false), (.int .i64 (-1))] h573 fun e61 ws123 h600 =>
                              onE e61 2 (
                                calls rec h600 19 [] fun v875 h601 =>
                                asB v875 fun q102 =>
                                some ((.bool q102), h601)) (
                                onR e61 (
                                  some (gv ws123 0, h600))))))))) (
                    ifB (eq n1 0) (
                      ld Try.prog h573 47 (nx h0) 0 fun v876 =>
                      calls rec h573 37 [v876] fun v877 h602 =>
                      calls rec h602 48 [v877, v6] fun v878 h603 =>
                      ext v878 0 fun v879 =>
                      asB v879 fun q103 =>
                      ext v878 1 fun v880 =>
                      asI .i64 v880 fun n745 =>
                      ifB q103 (
                        ifB (eq n745 0) (
                          calls rec h603 19 [] fun v881 h604 =>
                          asB v881 fun q104 =>
                          some ((.bool q104), h604)) (
                          some ((.bool false), h603))) (
                        some ((.bool false), h603))) (
                      ifB (lt n2 1) (
                        some ((.bool false), h573)) (
                        ld Try.prog h573 45 (nx h0) (off 0 2) fun v882 =>
                        len v882 fun n746 =>
                        nn n746 (
                          ifB (le (shl .i64 1 n746) n2) (
                            some ((.bool false), h573)) (
                            lp k (f16_l63 rec k h0 n2) [(.bool false), (.int .i64 (-1))] h573 fun e64 ws129 h628 =>
                            onE e64 2 (
                              calls rec h628 19 [] fun v914 h629 =>
                              asB v914 fun q107 =>
                              some ((.bool q107), h629)) (
                              onR e64 (
                                some (gv ws129 0, h628))))))))))) (
              calls rec h8 18 [v1] fun v915 h630 =>
              ifB q0 (
                len v915 fun n780 =>
                lp k (f16_l66 rec k n0 h0 v915 n780) [(.int .i64 0)] h630 fun e65 _ h633 =>
                onE e65 0 (
                  ld Try.prog h633 47 (nx h0) 0 fun v919 =>
                  calls rec h633 37 [v919] fun v920 h634 =>
                  calls rec h634 48 [v920, v915] fun v921 h635 =>
                  ext v921 0 fun v922 =>
                  asB v922 fun q108 =>
                  ext v921 1 fun v923 =>
                  asI .i64 v923 fun n788 =>
                  ifB (not q108) (
                    some ((.bool false), h635)) (
                    ifB (not (eq n788 0)) (
                      some ((.bool false), h635)) (
                      ld Try.prog h635 47 (nx h0) 0 fun v924 =>
                      calls rec h635 37 [v924] fun v925 h636 =>
                      calls rec h636 18 [v2] fun v926 h637 =>
                      calls rec h637 36 [v925, v926] fun v927 h638 =>
                      ext v927 0 fun v928 =>
                      asI .i64 v928 fun _ =>
                      ext v927 1 fun v929 =>
                      asI .i64 v929 fun _ =>
                      ext v927 2 fun v930 =>
                      asI .i64 v930 fun n791 =>
                      ifB (eq n791 4) (
                        ifB (eq n1 0) (
                          some ((.bool false), h638)) (
                          ifB (eq n1 0) (
                            ld Try.prog h638 47 (nx h0) 0 fun v931 =>
                            calls rec h638 37 [v931] fun v932 h639 =>
                            calls rec h639 48 [v932, v6] fun v933 h640 =>
                            ext v933 0 fun v934 =>
                            asB v934 fun q109 =>
                            ext v933 1 fun v935 =>
                            asI .i64 v935 fun n792 =>
                            ifB q109 (
                              ifB (eq n792 0) (
                                calls rec h640 19 [] fun v936 h641 =>
                                asB v936 fun q110 =>
                                some ((.bool q110), h641)) (
                                some ((.bool false), h640))) (
                              some ((.bool false), h640))) (
                            ifB (lt n2 1) (
                              some ((.bool false), h638)) (
                              ld Try.prog h638 45 (nx h0) (off 0 2) fun v937 =>
                              len v937 fun n793 =>
                              nn n793 (
                                ifB (le (shl .i64 1 n793) n2) (
                                  some ((.bool false), h638)) (
                                  lp k (f16_l67 rec k h0 n2) [(.bool false), (.int .i64 (-1))] h638 fun e68 ws137 h665 =>
                                  onE e68 2 (
                                    calls rec h665 19 [] fun v969 h666 =>
                                    asB v969 fun q113 =>
                                    some ((.bool q113), h666)) (
                                    onR e68 (
                                      some (gv ws137 0, h665))))))))) (
                        ifB (eq n1 0) (
                          ld Try.prog h638 47 (nx h0) 0 fun v970 =>
                          calls rec h638 37 [v970] fun v971 h667 =>
                          calls rec h667 48 [v971, v6] fun v972 h668 =>
                          ext v972 0 fun v973 =>
                          asB v973 fun q114 =>
                          ext v972 1 fun v974 =>
                          asI .i64 v974 fun n827 =>
                          ifB q114 (
                            ifB (eq n827 0) (
                              calls rec h668 19 [] fun v975 h669 =>
                              asB v975 fun q115 =>
                              some ((.bool q115), h669)) (
                              some ((.bool false), h668))) (
                            some ((.bool false), h668))) (
                          ifB (lt n2 1) (
                            some ((.bool false), h638)) (
                            ld Try.prog h638 45 (nx h0) (off 0 2) fun v976 =>
                            len v976 fun n828 =>
                            nn n828 (
                              ifB (le (shl .i64 1 n828) n2) (
                                some ((.bool false), h638)) (
                                lp k (f16_l70 rec k h0 n2) [(.bool false), (.int .i64 (-1))] h638 fun e71 ws143 h693 =>
                                onE e71 2 (
                                  calls rec h693 19 [] fun v1008 h694 =>
                                  asB v1008 fun q118 =>
                                  some ((.bool q118), h694)) (
                                  onR e71 (
                                    some (gv ws143 0, h693))))))))))) (
                  none)) (
                ld Try.prog h630 47 (nx h0) 0 fun v1009 =>
                calls rec h630 37 [v1009] fun v1010 h695 =>
                calls rec h695 18 [v2] fun v1011 h696 =>
                calls rec h696 36 [v1010, v1011] fun v1012 h697 =>
                ext v1012 0 fun v1013 =>
                asI .i64 v1013 fun _ =>
                ext v1012 1 fun v1014 =>
                asI .i64 v1014 fun _ =>
                ext v1012 2 fun v1015 =>
                asI .i64 v1015 fun n864 =>
                ifB (eq n864 4) (
                  ifB (eq n1 0) (
                    some ((.bool false), h697)) (
                    ifB (eq n1 0) (
                      ld Try.prog h697 47 (nx h0) 0 fun v1016 =>
                      calls rec h697 37 [v1016] fun v1017 h698 =>
                      calls rec h698 48 [v1017, v6] fun v1018 h699 =>
                      ext v1018 0 fun v1019 =>
                      asB v1019 fun q119 =>
                      ext v1018 1 fun v1020 =>
                      asI .i64 v1020 fun n865 =>
                      ifB q119 (
                        ifB (eq n865 0) (
                          calls rec h699 19 [] fun v1021 h700 =>
                          asB v1021 fun q120 =>
                          some ((.bool q120), h700)) (
                          some ((.bool false), h699))) (
                        some ((.bool false), h699))) (
                      ifB (lt n2 1) (
                        some ((.bool false), h697)) (
                        ld Try.prog h697 45 (nx h0) (off 0 2) fun v1022 =>
                        len v1022 fun n866 =>
                        nn n866 (
                          ifB (le (shl .i64 1 n866) n2) (
                            some ((.bool false), h697)) (
                            lp k (f16_l73 rec k h0 n2) [(.bool false), (.int .i64 (-1))] h697 fun e74 ws149 h724 =>
                            onE e74 2 (
                              calls rec h724 19 [] fun v1054 h725 =>
                              asB v1054 fun q123 =>
                              some ((.bool q123), h725)) (
                              onR e74 (
                                some (gv ws149 0, h724))))))))) (
                  ifB (eq n1 0) (
                    ld Try.prog h697 47 (nx h0) 0 fun v1055 =>
                    calls rec h697 37 [v1055] fun v1056 h726 =>
                    calls rec h726 48 [v1056, v6] fun v1057 h727 =>
                    ext v1057 0 fun v1058 =>
                    asB v1058 fun q124 =>
                    ext v1057 1 fun v1059 =>
                    asI .i64 v1059 fun n900 =>
                    ifB q124 (
                      ifB (eq n900 0) (
                        calls rec h727 19 [] fun v1060 h728 =>
                        asB v1060 fun q125 =>
                        some ((.bool q125), h728)) (
                        some ((.bool false), h727))) (
                      some ((.bool false), h727))) (
                    ifB (lt n2 1) (
                      some ((.bool false), h697)) (
                      ld Try.prog h697 45 (nx h0) (off 0 2) fun v1061 =>
                      len v1061 fun n901 =>
                      nn n901 (
                        ifB (le (shl .i64 1 n901) n2) (
                          some ((.bool false), h697)) (
                          lp k (f16_l76 rec k h0 n2) [(.bool false), (.int .i64 (-1))] h697 fun e77 ws155 h752 =>
                          onE e77 2 (
                            calls rec h752 19 [] fun v1093 h753 =>
                            asB v1093 fun q128 =>
                            some ((.bool q128), h753)) (
                            onR e77 (
                              some (gv ws155 0, h752)))))))))))) (
          ifB q0 (
            ifB (not (eq n1 0)) (
              some ((.bool false), h8)) (
              calls rec h8 18 [v1] fun v1094 h754 =>
              ifB q0 (
                len v1094 fun n935 =>
                lp k (f16_l79 rec k n0 h0 v1094 n935) [(.int .i64 0)] h754 fun e78 _ h757 =>
                onE e78 0 (
                  ld Try.prog h757 47 (nx h0) 0 fun v1098 =>
                  calls rec h757 37 [v1098] fun v1099 h758 =>
                  calls rec h758 48 [v1099, v1094] fun v1100 h759 =>
                  ext v1100 0 fun v1101 =>
                  asB v1101 fun q129 =>
                  ext v1100 1 fun v1102 =>
                  asI .i64 v1102 fun n943 =>
                  ifB (not q129) (
                    some ((.bool false), h759)) (
                    ifB (not (eq n943 0)) (
                      some ((.bool false), h759)) (
                      ld Try.prog h759 47 (nx h0) 0 fun v1103 =>
                      calls rec h759 37 [v1103] fun v1104 h760 =>
                      calls rec h760 18 [v2] fun v1105 h761 =>
                      calls rec h761 36 [v1104, v1105] fun v1106 h762 =>
                      ext v1106 0 fun v1107 =>
                      asI .i64 v1107 fun _ =>
                      ext v1106 1 fun v1108 =>
                      asI .i64 v1108 fun _ =>
                      ext v1106 2 fun v1109 =>
                      asI .i64 v1109 fun n946 =>
                      ifB (eq n946 4) (
                        ifB (eq n1 0) (
                          some ((.bool false), h762)) (
                          ifB (eq n1 0) (
                            ld Try.prog h762 47 (nx h0) 0 fun v1110 =>
                            calls rec h762 37 [v1110] fun v1111 h763 =>
                            calls rec h763 48 [v1111, v6] fun v1112 h764 =>
                            ext v1112 0 fun v1113 =>
                            asB v1113 fun q130 =>
                            ext v1112 1 fun v1114 =>
                            asI .i64 v1114 fun n947 =>
                            ifB q130 (
                              ifB (eq n947 0) (
                                calls rec h764 19 [] fun v1115 h765 =>
                                asB v1115 fun q131 =>
                                some ((.bool q131), h765)) (
                                some ((.bool false), h764))) (
                              some ((.bool false), h764))) (
                            ifB (lt n2 1) (
                              some ((.bool false), h762)) (
                              ld Try.prog h762 45 (nx h0) (off 0 2) fun v1116 =>
                              len v1116 fun n948 =>
                              nn n948 (
                                ifB (le (shl .i64 1 n948) n2) (
                                  some ((.bool false), h762)) (
                                  lp k (f16_l80 rec k h0 n2) [(.bool false), (.int .i64 (-1))] h762 fun e81 ws163 h789 =>
                                  onE e81 2 (
                                    calls rec h789 19 [] fun v1148 h790 =>
                                    asB v1148 fun q134 =>
                                    some ((.bool q134), h790)) (
                                    onR e81 (
                                      some (gv ws163 0, h789))))))))) (
                        ifB (eq n1 0) (
                          ld Try.prog h762 47 (nx h0) 0 fun v1149 =>
                          calls rec h762 37 [v1149] fun v1150 h791 =>
                          calls rec h791 48 [v1150, v6] fun v1151 h792 =>
                          ext v1151 0 fun v1152 =>
                          asB v1152 fun q135 =>
                          ext v1151 1 fun v1153 =>
                          asI .i64 v1153 fun n982 =>
                          ifB q135 (
                            ifB (eq n982 0) (
                              calls rec h792 19 [] fun v1154 h793 =>
                              asB v1154 fun q136 =>
                              some ((.bool q136), h793)) (
                              some ((.bool false), h792))) (
                            some ((.bool false), h792))) (
                          ifB (lt n2 1) (
                            some ((.bool false), h762)) (
                            ld Try.prog h762 45 (nx h0) (off 0 2) fun v1155 =>
                            len v1155 fun n983 =>
                            nn n983 (
                              ifB (le (shl .i64 1 n983) n2) (
                                some ((.bool false), h762)) (
                                lp k (f16_l83 rec k h0 n2) [(.bool false), (.int .i64 (-1))] h762 fun e84 ws169 h817 =>
                                onE e84 2 (
                                  calls rec h817 19 [] fun v1187 h818 =>
                                  asB v1187 fun q139 =>
                                  some ((.bool q139), h818)) (
                                  onR e84 (
                                    some (gv ws169 0, h817))))))))))) (
                  none)) (
                ld Try.prog h754 47 (nx h0) 0 fun v1188 =>
                calls rec h754 37 [v1188] fun v1189 h819 =>
                calls rec h819 18 [v2] fun v1190 h820 =>
                calls rec h820 36 [v1189, v1190] fun v1191 h821 =>
                ext v1191 0 fun v1192 =>
                asI .i64 v1192 fun _ =>
                ext v1191 1 fun v1193 =>
                asI .i64 v1193 fun _ =>
                ext v1191 2 fun v1194 =>
                asI .i64 v1194 fun n1019 =>
                ifB (eq n1019 4) (
                  ifB (eq n1 0) (
                    some ((.bool false), h821)) (
                    ifB (eq n1 0) (
                      ld Try.prog h821 47 (nx h0) 0 fun v1195 =>
                      calls rec h821 37 [v1195] fun v1196 h822 =>
                      calls rec h822 48 [v1196, v6] fun v1197 h823 =>
                      ext v1197 0 fun v1198 =>
                      asB v1198 fun q140 =>
                      ext v1197 1 fun v1199 =>
                      asI .i64 v1199 fun n1020 =>
                      ifB q140 (
                        ifB (eq n1020 0) (
                          calls rec h823 19 [] fun v1200 h824 =>
                          asB v1200 fun q141 =>
                          some ((.bool q141), h824)) (
                          some ((.bool false), h823))) (
                        some ((.bool false), h823))) (
                      ifB (lt n2 1) (
                        some ((.bool false), h821)) (
                        ld Try.prog h821 45 (nx h0) (off 0 2) fun v1201 =>
                        len v1201 fun n1021 =>
                        nn n1021 (
                          ifB (le (shl .i64 1 n1021) n2) (
                            some ((.bool false), h821)) (
                            lp k (f16_l86 rec k h0 n2) [(.bool false), (.int .i64 (-1))] h821 fun e87 ws175 h848 =>
                            onE e87 2 (
                              calls rec h848 19 [] fun v1233 h849 =>
                              asB v1233 fun q144 =>
                              some ((.bool q144), h849)) (
                              onR e87 (
                                some (gv ws175 0, h848))))))))) (
                  ifB (eq n1 0) (
                    ld Try.prog h821 47 (nx h0) 0 fun v1234 =>
                    calls rec h821 37 [v1234] fun v1235 h850 =>
                    calls rec h850 48 [v1235, v6] fun v1236 h851 =>
                    ext v1236 0 fun v1237 =>
                    asB v1237 fun q145 =>
                    ext v1236 1 fun v1238 =>
                    asI .i64 v1238 fun n1055 =>
                    ifB q145 (
                      ifB (eq n1055 0) (
                        calls rec h851 19 [] fun v1239 h852 =>
                        asB v1239 fun q146 =>
                        some ((.bool q146), h852)) (
                        some ((.bool false), h851))) (
                      some ((.bool false), h851))) (
                    ifB (lt n2 1) (
                      some ((.bool false), h821)) (
                      ld Try.prog h821 45 (nx h0) (off 0 2) fun v1240 =>
                      len v1240 fun n1056 =>
                      nn n1056 (
                        ifB (le (shl .i64 1 n1056) n2) (
                          some ((.bool false), h821)) (
                          lp k (f16_l89 rec k h0 n2) [(.bool false), (.int .i64 (-1))] h821 fun e90 ws181 h876 =>
                          onE e90 2 (
                            calls rec h876 19 [] fun v1272 h877 =>
                            asB v1272 fun q149 =>
                            some ((.bool q149), h877)) (
                            onR e90 (
                              some (gv ws181 0, h876))))))))))) (
            calls rec h8 18 [v1] fun v1273 h878 =>
            ifB q0 (
              len v1273 fun n1090 =>
              lp k (f16_l92 rec k n0 h0 v1273 n1090) [(.int .i64 0)] h878 fun e91 _ h881 =>
              onE e91 0 (
                ld Try.prog h881 47 (nx h0) 0 fun v1277 =>
                calls rec h881 37 [v1277] fun v1278 h882 =>
                calls rec h882 48 [v1278, v1273] fun v1279 h883 =>
                ext v1279 0 fun v1280 =>
                asB v1280 fun q150 =>
                ext v1279 1 fun v1281 =>
                asI .i64 v1281 fun n1098 =>
                ifB (not q150) (
                  some ((.bool false), h883)) (
                  ifB (not (eq n1098 0)) (
                    some ((.bool false), h883)) (
                    ld Try.prog h883 47 (nx h0) 0 fun v1282 =>
                    calls rec h883 37 [v1282] fun v1283 h884 =>
                    calls rec h884 18 [v2] fun v1284 h885 =>
                    calls rec h885 36 [v1283, v1284] fun v1285 h886 =>
                    ext v1285 0 fun v1286 =>
                    asI .i64 v1286 fun _ =>
                    ext v1285 1 fun v1287 =>
                    asI .i64 v1287 fun _ =>
                    ext v1285 2 fun v1288 =>
                    asI .i64 v1288 fun n1101 =>
                    ifB (eq n1101 4) (
                      ifB (eq n1 0) (
                        some ((.bool false), h886)) (
                        ifB (eq n1 0) (
                          ld Try.prog h886 47 (nx h0) 0 fun v1289 =>
                          calls rec h886 37 [v1289] fun v1290 h887 =>
                          calls rec h887 48 [v1290, v6] fun v1291 h888 =>
                          ext v1291 0 fun v1292 =>
                          asB v1292 fun q151 =>
                          ext v1291 1 fun v1293 =>
                          asI .i64 v1293 fun n1102 =>
                          ifB q151 (
                            ifB (eq n1102 0) (
                              calls rec h888 19 [] fun v1294 h889 =>
                              asB v1294 fun q152 =>
                              some ((.bool q152), h889)) (
                              some ((.bool false), h888))) (
                            some ((.bool false), h888))) (
                          ifB (lt n2 1) (
                            some ((.bool false), h886)) (
                            ld Try.prog h886 45 (nx h0) (off 0 2) fun v1295 =>
                            len v1295 fun n1103 =>
                            nn n1103 (
                              ifB (le (shl .i64 1 n1103) n2) (
                                some ((.bool false), h886)) (
                                lp k (f16_l93 rec k h0 n2) [(.bool false), (.int .i64 (-1))] h886 fun e94 ws189 h913 =>
                                onE e94 2 (
                                  calls rec h913 19 [] fun v1327 h914 =>
                                  asB v1327 fun q155 =>
                                  some ((.bool q155), h914)) (
                                  onR e94 (
                                    some (gv ws189 0, h913))))))))) (
                      ifB (eq n1 0) (
                        ld Try.prog h886 47 (nx h0) 0 fun v1328 =>
                        calls rec h886 37 [v1328] fun v1329 h915 =>
                        calls rec h915 48 [v1329, v6] fun v1330 h916 =>
                        ext v1330 0 fun v1331 =>
                        asB v1331 fun q156 =>
                        ext v1330 1 fun v1332 =>
                        asI .i64 v1332 fun n1137 =>
                        ifB q156 (
                          ifB (eq n1137 0) (
                            calls rec h916 19 [] fun v1333 h917 =>
                            asB v1333 fun q157 =>
                            some ((.bool q157), h917)) (
                            some ((.bool false), h916))) (
                          some ((.bool false), h916))) (
                        ifB (lt n2 1) (
                          some ((.bool false), h886)) (
                          ld Try.prog h886 45 (nx h0) (off 0 2) fun v1334 =>
                          len v1334 fun n1138 =>
                          nn n1138 (
                            ifB (le (shl .i64 1 n1138) n2) (
                              some ((.bool false), h886)) (
                              lp k (f16_l96 rec k h0 n2) [(.bool false), (.int .i64 (-1))] h886 fun e97 ws195 h941 =>
                              onE e97 2 (
                                calls rec h941 19 [] fun v1366 h942 =>
                                asB v1366 fun q160 =>
                                some ((.bool q160), h942)) (
                                onR e97 (
                                  some (gv ws195 0, h941))))))))))) (
                none)) (
              ld Try.prog h878 47 (nx h0) 0 fun v1367 =>
              calls rec h878 37 [v1367] fun v1368 h943 =>
              calls rec h943 18 [v2] fun v1369 h944 =>
              calls rec h944 36 [v1368, v1369] fun v1370 h945 =>
              ext v1370 0 fun v1371 =>
              asI .i64 v1371 fun _ =>
              ext v1370 1 fun v1372 =>
              asI .i64 v1372 fun _ =>
              ext v1370 2 fun v1373 =>
              asI .i64 v1373 fun n1174 =>
              ifB (eq n1174 4) (
                ifB (eq n1 0) (
                  some ((.bool false), h945)) (
                  ifB (eq n1 0) (
                    ld Try.prog h945 47 (nx h0) 0 fun v1374 =>
                    calls rec h945 37 [v1374] fun v1375 h946 =>
                    calls rec h946 48 [v1375, v6] fun v1376 h947 =>
                    ext v1376 0 fun v1377 =>
                    asB v1377 fun q161 =>
                    ext v1376 1 fun v1378 =>
                    asI .i64 v1378 fun n1175 =>
                    ifB q161 (
                      ifB (eq n1175 0) (
                        calls rec h947 19 [] fun v1379 h948 =>
                        asB v1379 fun q162 =>
                        some ((.bool q162), h948)) (
                        some ((.bool false), h947))) (
                      some ((.bool false), h947))) (
                    ifB (lt n2 1) (
                      some ((.bool false), h945)) (
                      ld Try.prog h945 45 (nx h0) (off 0 2) fun v1380 =>
                      len v1380 fun n1176 =>
                      nn n1176 (
                        ifB (le (shl .i64 1 n1176) n2) (
                          some ((.bool false), h945)) (
                          lp k (f16_l99 rec k h0 n2) [(.bool false), (.int .i64 (-1))] h945 fun e100 ws201 h972 =>
                          onE e100 2 (
                            calls rec h972 19 [] fun v1412 h973 =>
                            asB v1412 fun q165 =>
                            some ((.bool q165), h973)) (
                            onR e100 (
                              some (gv ws201 0, h972))))))))) (
                ifB (eq n1 0) (
                  ld Try.prog h945 47 (nx h0) 0 fun v1413 =>
                  calls rec h945 37 [v1413] fun v1414 h974 =>
                  calls rec h974 48 [v1414, v6] fun v1415 h975 =>
                  ext v1415 0 fun v1416 =>
                  asB v1416 fun q166 =>
                  ext v1415 1 fun v1417 =>
                  asI .i64 v1417 fun n1210 =>
                  ifB q166 (
                    ifB (eq n1210 0) (
                      calls rec h975 19 [] fun v1418 h976 =>
                      asB v1418 fun q167 =>
                      some ((.bool q167), h976)) (
                      some ((.bool false), h975))) (
                    some ((.bool false), h975))) (
                  ifB (lt n2 1) (
                    some ((.bool false), h945)) (
                    ld Try.prog h945 45 (nx h0) (off 0 2) fun v1419 =>
                    len v1419 fun n1211 =>
                    nn n1211 (
                      ifB (le (shl .i64 1 n1211) n2) (
                        some ((.bool false), h945)) (
                        lp k (f16_l102 rec k h0 n2) [(.bool false), (.int .i64 (-1))] h945 fun e103 ws207 h1000 =>
                        onE e103 2 (
                          calls rec h1000 19 [] fun v1451 h1001 =>
                          asB v1451 fun q170 =>
                          some ((.bool q170), h1001)) (
                          onR e103 (
                            some (gv ws207 0, h1000))))))))))))))

theorem e16 (rec : Rec) (k : Nat) (v0 : Value) (v1 : Value) (n0 : Int) (v2 : Value) (h : H) : bodyT Try.prog E0 SC (XC Try.prog rec k) 16 (Value × H) [.opq v0, .opq v1, .int .i64 n0, .opq v2] h (fun v h => some (v, h)) = f16 rec k v0 v1 n0 v2 h := by kernel_rfl

theorem t16 {k : Nat} {v0 : Value} {v1 : Value} {n0 : Int} {v2 : Value} {h h1 : H} {v : Value} (hh : f16 rn k v0 v1 n0 v2 h = some (v, h1)) : rn 16 #[v0, v1, .int .i64 n0, v2] h = some (v, trunc Try.prog h h1 v) :=
  run_of_bodyT (args := [.opq v0, .opq v1, .int .i64 n0, .opq v2]) rfl ((e16 _ _ _ _ _ _ _).trans hh)

theorem x16 {k : Nat} {v0 : Value} {v1 : Value} {n0 : Int} {v2 : Value} {h h1 : H} {v : Value} (hh : f16 rn k v0 v1 n0 v2 h = some (v, h1)) (hp : plainO v = false) : rn 16 #[v0, v1, .int .i64 n0, v2] h = some (v, h1) := by rw [t16 hh, trunc_not hp]

end Go.AM

end
