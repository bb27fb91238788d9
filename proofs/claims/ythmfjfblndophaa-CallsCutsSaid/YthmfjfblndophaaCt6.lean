/- Parts of the proof, put together: the abstract machine, what the functions of the program answer, and plain laws. -/
import Derived.Test.YthmfjfblndophaaCt5

section
namespace Go.AM
open Go.Proofs
noncomputable def f87_l1 (rec : Rec) (_k : Nat) (v0 : Value) (n0 : Int) (n1 : Int) (n2 : Int) (v5 : Value) (n5 : Int) (ws0 : List Value) (h5 : H) : Option (Ex × List Value × H) :=
 asI .i64 (gv ws0 1) fun n6 =>
 ifB (lt n6 n5) (
 asK (gv ws0 1) fun n7 =>
 six v5 n7 3 fun b14 b15 =>
 ld Try.prog h5 59 b14 b15 fun v6 =>
 al h5 59 [(.int .i64 0), (.int .i64 0), (.int .i64 0)] fun h6 =>
 st Try.prog h6 59 (nx h5) 0 v6 fun h7 =>
 nil v0 (
 asP v0 fun b16 b17 =>
 ld Try.prog h7 3 b16 (off b17 2) fun v7 =>
 asI .i64 v7 fun n8 =>
 asK (gv ws0 1) fun n9 =>
 nn n9 (
 ifB (eq (and .i64 (shr .i64 n8 n9) 1) 1) (
 asI .i64 (gv ws0 1) fun n10 =>
 out .normal [gv ws0 0, (.int .i64 (add .i64 n10 1))] h7) (
 ld Try.prog h7 3 (nx h5) 0 fun v8 =>
 asI .i64 v8 fun n11 =>
 ifB (not (eq n11 n0)) (
 ld Try.prog h7 3 (nx h5) (off 0 1) fun v9 =>
 asI .i64 v9 fun n12 =>
 ifB (not (eq n12 n0)) (
 asI .i64 (gv ws0 1) fun n13 =>
 out .normal [gv ws0 0, (.int .i64 (add .i64 n13 1))] h7) (
 ld Try.prog h7 3 (nx h5) (off 0 1) fun v10 =>
 asI .i64 v10 fun n14 =>
 ld Try.prog h7 3 (nx h5) (off 0 1) fun v11 =>
 asI .i64 v11 fun n15 =>
 ifB (eq n15 n0) (
 ld Try.prog h7 3 (nx h5) 0 fun v12 =>
 asI .i64 v12 fun n16 =>
 ld Try.prog h7 3 (nx h5) (off 0 2) fun v13 =>
 asI .i64 v13 fun n17 =>
 ifB (eq n17 n1) (
 nil v0 (
 asP v0 fun b18 b19 =>
 asK (gv ws0 1) fun n18 =>
 aix 24 n18 (
 aix 2 1 (
 ld Try.prog h7 4 b18 (at_ (at_ (off b19 227) n18 2) 1 1) fun v14 =>
 asB v14 fun q2 =>
 ifB (not q2) (
 nil v0 (
 asP v0 fun b20 b21 =>
 asK (gv ws0 1) fun n19 =>
 aix 24 n19 (
 aix 2 1 (
 st Try.prog h7 4 b20 (at_ (at_ (off b21 227) n19 2) 1 1) (.bool true) fun h8 =>
 calls rec h8 87 [v0, (.int .i64 n16), (.int .i64 (add .i64 n1 1)), (.int .i64 n2)] fun v15 h9 =>
 asB v15 fun q3 =>
 ifB q3 (
 out .ret [(.bool true), gv ws0 1] h9) (
 nil v0 (
 asP v0 fun b22 b23 =>
 asK (gv ws0 1) fun n20 =>
 aix 24 n20 (
 aix 2 1 (
 st Try.prog h9 4 b22 (at_ (at_ (off b23 227) n20 2) 1 1) (.bool false) fun h10 =>
 ld Try.prog h10 3 (nx h5) (off 0 2) fun v16 =>
 asI .i64 v16 fun n21 =>
 ifB (eq n21 (sub .i64 n1 1)) (
 nil v0 (
 asP v0 fun b24 b25 =>
 asK (gv ws0 1) fun n22 =>
 aix 24 n22 (
 aix 2 (sub .i64 1 1) (
 ld Try.prog h10 4 b24 (at_ (at_ (off b25 227) n22 2) (sub .i64 1 1) 1) fun v17 =>
 asB v17 fun q4 =>
 ifB q4 (
 nil v0 (
 asP v0 fun b26 b27 =>
 asK (gv ws0 1) fun n23 =>
 aix 24 n23 (
 aix 2 (sub .i64 1 1) (
 st Try.prog h10 4 b26 (at_ (at_ (off b27 227) n23 2) (sub .i64 1 1) 1) (.bool false) fun h11 =>
 calls rec h11 87 [v0, (.int .i64 n16), (.int .i64 (sub .i64 n1 1)), (.int .i64 n2)] fun v18 h12 =>
 asB v18 fun q5 =>
 ifB q5 (
 out .ret [(.bool true), gv ws0 1] h12) (
 nil v0 (
 asP v0 fun b28 b29 =>
 asK (gv ws0 1) fun n24 =>
 aix 24 n24 (
 aix 2 (sub .i64 1 1) (
 st Try.prog h12 4 b28 (at_ (at_ (off b29 227) n24 2) (sub .i64 1 1) 1) (.bool true) fun h13 =>
 asI .i64 (gv ws0 1) fun n25 =>
 out .normal [gv ws0 0, (.int .i64 (add .i64 n25 1))] h13)))))))) (
 asI .i64 (gv ws0 1) fun n26 =>
 out .normal [gv ws0 0, (.int .i64 (add .i64 n26 1))] h10))))) (
 asI .i64 (gv ws0 1) fun n27 =>
 out .normal [gv ws0 0, (.int .i64 (add .i64 n27 1))] h10))))))))) (
 ld Try.prog h7 3 (nx h5) (off 0 2) fun v19 =>
 asI .i64 v19 fun n28 =>
 ifB (eq n28 (sub .i64 n1 1)) (
 nil v0 (
 asP v0 fun b30 b31 =>
 asK (gv ws0 1) fun n29 =>
 aix 24 n29 (
 aix 2 (sub .i64 1 1) (
 ld Try.prog h7 4 b30 (at_ (at_ (off b31 227) n29 2) (sub .i64 1 1) 1) fun v20 =>
 asB v20 fun q6 =>
 ifB q6 (
 nil v0 (
 asP v0 fun b32 b33 =>
 asK (gv ws0 1) fun n30 =>
 aix 24 n30 (
 aix 2 (sub .i64 1 1) (
 st Try.prog h7 4 b32 (at_ (at_ (off b33 227) n30 2) (sub .i64 1 1) 1) (.bool false) fun h14 =>
 calls rec h14 87 [v0, (.int .i64 n16), (.int .i64 (sub .i64 n1 1)), (.int .i64 n2)] fun v21 h15 =>
 asB v21 fun q7 =>
 ifB q7 (
 out .ret [(.bool true), gv ws0 1] h15) (
 nil v0 (
 asP v0 fun b34 b35 =>
 asK (gv ws0 1) fun n31 =>
 aix 24 n31 (
 aix 2 (sub .i64 1 1) (
 st Try.prog h15 4 b34 (at_ (at_ (off b35 227) n31 2) (sub .i64 1 1) 1) (.bool true) fun h16 =>
 asI .i64 (gv ws0 1) fun n32 =>
 out .normal [gv ws0 0, (.int .i64 (add .i64 n32 1))] h16)))))))) (
 asI .i64 (gv ws0 1) fun n33 =>
 out .normal [gv ws0 0, (.int .i64 (add .i64 n33 1))] h7))))) (
 asI .i64 (gv ws0 1) fun n34 =>
 out .normal [gv ws0 0, (.int .i64 (add .i64 n34 1))] h7)))))) (
 ld Try.prog h7 3 (nx h5) (off 0 2) fun v22 =>
 asI .i64 v22 fun n35 =>
 ifB (eq n35 (sub .i64 n1 1)) (
 nil v0 (
 asP v0 fun b36 b37 =>
 asK (gv ws0 1) fun n36 =>
 aix 24 n36 (
 aix 2 (sub .i64 1 1) (
 ld Try.prog h7 4 b36 (at_ (at_ (off b37 227) n36 2) (sub .i64 1 1) 1) fun v23 =>
 asB v23 fun q8 =>
 ifB q8 (
 nil v0 (
 asP v0 fun b38 b39 =>
 asK (gv ws0 1) fun n37 =>
 aix 24 n37 (
 aix 2 (sub .i64 1 1) (
 st Try.prog h7 4 b38 (at_ (at_ (off b39 227) n37 2) (sub .i64 1 1) 1) (.bool false) fun h17 =>
 calls rec h17 87 [v0, (.int .i64 n16), (.int .i64 (sub .i64 n1 1)), (.int .i64 n2)] fun v24 h18 =>
 asB v24 fun q9 =>
 ifB q9 (
 out .ret [(.bool true), gv ws0 1] h18) (
 nil v0 (
 asP v0 fun b40 b41 =>
 asK (gv ws0 1) fun n38 =>
 aix 24 n38 (
 aix 2 (sub .i64 1 1) (
 st Try.prog h18 4 b40 (at_ (at_ (off b41 227) n38 2) (sub .i64 1 1) 1) (.bool true) fun h19 =>
 asI .i64 (gv ws0 1) fun n39 =>
 out .normal [gv ws0 0, (.int .i64 (add .i64 n39 1))] h19)))))))) (
 asI .i64 (gv ws0 1) fun n40 =>
 out .normal [gv ws0 0, (.int .i64 (add .i64 n40 1))] h7))))) (
 asI .i64 (gv ws0 1) fun n41 =>
 out .normal [gv ws0 0, (.int .i64 (add .i64 n41 1))] h7))) (
 ld Try.prog h7 3 (nx h5) (off 0 2) fun v25 =>
 asI .i64 v25 fun n42 =>
 ifB (eq n42 n1) (
 nil v0 (
 asP v0 fun b42 b43 =>
 asK (gv ws0 1) fun n43 =>
 aix 24 n43 (
 aix 2 0 (
 ld Try.prog h7 4 b42 (at_ (at_ (off b43 227) n43 2) 0 1) fun v26 =>
 asB v26 fun q10 =>
 ifB (not q10) (
 nil v0 (
 asP v0 fun b44 b45 =>
 asK (gv ws0 1) fun n44 =>
 aix 24 n44 (
 aix 2 0 (
 st Try.prog h7 4 b44 (at_ (at_ (off b45 227) n44 2) 0 1) (.bool true) fun h20 =>
 calls rec h20 87 [v0, (.int .i64 n14), (.int .i64 (add .i64 n1 1)), (.int .i64 n2)] fun v27 h21 =>
 asB v27 fun q11 =>
 ifB q11 (
 out .ret [(.bool true), gv ws0 1] h21) (
 nil v0 (
 asP v0 fun b46 b47 =>
 asK (gv ws0 1) fun n45 =>
 aix 24 n45 (
 aix 2 0 (
 st Try.prog h21 4 b46 (at_ (at_ (off b47 227) n45 2) 0 1) (.bool false) fun h22 =>
 ld Try.prog h22 3 (nx h5) (off 0 2) fun v28 =>
 asI .i64 v28 fun n46 =>
 ifB (eq n46 (sub .i64 n1 1)) (
 nil v0 (
 asP v0 fun b48 b49 =>
 asK (gv ws0 1) fun n47 =>
 aix 24 n47 (
 aix 2 (sub .i64 1 0) (
 ld Try.prog h22 4 b48 (at_ (at_ (off b49 227) n47 2) (sub .i64 1 0) 1) fun v29 =>
 asB v29 fun q12 =>
 ifB q12 (
 nil v0 (
 asP v0 fun b50 b51 =>
 asK (gv ws0 1) fun n48 =>
 aix 24 n48 (
 aix 2 (sub .i64 1 0) (
 st Try.prog h22 4 b50 (at_ (at_ (off b51 227) n48 2) (sub .i64 1 0) 1) (.bool false) fun h23 =>
 calls rec h23 87 [v0, (.int .i64 n14), (.int .i64 (sub .i64 n1 1)), (.int .i64 n2)] fun v30 h24 =>
 asB v30 fun q13 =>
 ifB q13 (
 out .ret [(.bool true), gv ws0 1] h24) (
 nil v0 (
 asP v0 fun b52 b53 =>
 asK (gv ws0 1) fun n49 =>
 aix 24 n49 (
 aix 2 (sub .i64 1 0) (
 st Try.prog h24 4 b52 (at_ (at_ (off b53 227) n49 2) (sub .i64 1 0) 1) (.bool true) fun h25 =>
 asI .i64 (gv ws0 1) fun n50 =>
 out .normal [gv ws0 0, (.int .i64 (add .i64 n50 1))] h25)))))))) (
 asI .i64 (gv ws0 1) fun n51 =>
 out .normal [gv ws0 0, (.int .i64 (add .i64 n51 1))] h22))))) (
 asI .i64 (gv ws0 1) fun n52 =>
 out .normal [gv ws0 0, (.int .i64 (add .i64 n52 1))] h22))))))))) (
 ld Try.prog h7 3 (nx h5) (off 0 2) fun v31 =>
 asI .i64 v31 fun n53 =>
 ifB (eq n53 (sub .i64 n1 1)) (
 nil v0 (
 asP v0 fun b54 b55 =>
 asK (gv ws0 1) fun n54 =>
 aix 24 n54 (
 aix 2 (sub .i64 1 0) (
 ld Try.prog h7 4 b54 (at_ (at_ (off b55 227) n54 2) (sub .i64 1 0) 1) fun v32 =>
 asB v32 fun q14 =>
 ifB q14 (
 nil v0 (
 asP v0 fun b56 b57 =>
 asK (gv ws0 1) fun n55 =>
 aix 24 n55 (
 aix 2 (sub .i64 1 0) (
 st Try.prog h7 4 b56 (at_ (at_ (off b57 227) n55 2) (sub .i64 1 0) 1) (.bool false) fun h26 =>
 calls rec h26 87 [v0, (.int .i64 n14), (.int .i64 (sub .i64 n1 1)), (.int .i64 n2)] fun v33 h27 =>
 asB v33 fun q15 =>
 ifB q15 (
 out .ret [(.bool true), gv ws0 1] h27) (
 nil v0 (
 asP v0 fun b58 b59 =>
 asK (gv ws0 1) fun n56 =>
 aix 24 n56 (
 aix 2 (sub .i64 1 0) (
 st Try.prog h27 4 b58 (at_ (at_ (off b59 227) n56 2) (sub .i64 1 0) 1) (.bool true) fun h28 =>
 asI .i64 (gv ws0 1) fun n57 =>
 out .normal [gv ws0 0, (.int .i64 (add .i64 n57 1))] h28)))))))) (
 asI .i64 (gv ws0 1) fun n58 =>
 out .normal [gv ws0 0, (.int .i64 (add .i64 n58 1))] h7))))) (
 asI .i64 (gv ws0 1) fun n59 =>
 out .normal [gv ws0 0, (.int .i64 (add .i64 n59 1))] h7)))))) (
 ld Try.prog h7 3 (nx h5) (off 0 2) fun v34 =>
 asI .i64 v34 fun n60 =>
 ifB (eq n60 (sub .i64 n1 1)) (
 nil v0 (
 asP v0 fun b60 b61 =>
 asK (gv ws0 1) fun n61 =>
 aix 24 n61 (
 aix 2 (sub .i64 1 0) (
 ld Try.prog h7 4 b60 (at_ (at_ (off b61 227) n61 2) (sub .i64 1 0) 1) fun v35 =>
 asB v35 fun q16 =>
 ifB q16 (
 nil v0 (
 asP v0 fun b62 b63 =>
 asK (gv ws0 1) fun n62 =>
 aix 24 n62 (
 aix 2 (sub .i64 1 0) (
 st Try.prog h7 4 b62 (at_ (at_ (off b63 227) n62 2) (sub .i64 1 0) 1) (.bool false) fun h29 =>
 calls rec h29 87 [v0, (.int .i64 n14), (.int .i64 (sub .i64 n1 1)), (.int .i64 n2)] fun v36 h30 =>
 asB v36 fun q17 =>
 ifB q17 (
 out .ret [(.bool true), gv ws0 1] h30) (
 nil v0 (
 asP v0 fun b64 b65 =>
 asK (gv ws0 1) fun n63 =>
 aix 24 n63 (
 aix 2 (sub .i64 1 0) (
 st Try.prog h30 4 b64 (at_ (at_ (off b65 227) n63 2) (sub .i64 1 0) 1) (.bool true) fun h31 =>
 asI .i64 (gv ws0 1) fun n64 =>
 out .normal [gv ws0 0, (.int .i64 (add .i64 n64 1))] h31)))))))) (
 asI .i64 (gv ws0 1) fun n65 =>
 out .normal [gv ws0 0, (.int .i64 (add .i64 n65 1))] h7))))) (
 asI .i64 (gv ws0 1) fun n66 =>
 out .normal [gv ws0 0, (.int .i64 (add .i64 n66 1))] h7))))) (
 ld Try.prog h7 3 (nx h5) (off 0 1) fun v37 =>
 asI .i64 v37 fun n67 =>
 ld Try.prog h7 3 (nx h5) (off 0 1) fun v38 =>
 asI .i64 v38 fun n68 =>
 ifB (eq n68 n0) (
 ld Try.prog h7 3 (nx h5) 0 fun v39 =>
 asI .i64 v39 fun n69 =>
 ld Try.prog h7 3 (nx h5) (off 0 2) fun v40 =>
 asI .i64 v40 fun n70 =>
 ifB (eq n70 n1) (
 nil v0 (
 asP v0 fun b66 b67 =>
 asK (gv ws0 1) fun n71 =>
 aix 24 n71 (
 aix 2 1 (
 ld Try.prog h7 4 b66 (at_ (at_ (off b67 227) n71 2) 1 1) fun v41 =>
 asB v41 fun q18 =>
 ifB (not q18) (
 nil v0 (
 asP v0 fun b68 b69 =>
 asK (gv ws0 1) fun n72 =>
 aix 24 n72 (
 aix 2 1 (
 st Try.prog h7 4 b68 (at_ (at_ (off b69 227) n72 2) 1 1) (.bool true) fun h32 =>
 calls rec h32 87 [v0, (.int .i64 n69), (.int .i64 (add .i64 n1 1)), (.int .i64 n2)] fun v42 h33 =>
 asB v42 fun q19 =>
 ifB q19 (
 out .ret [(.bool true), gv ws0 1] h33) (
 nil v0 (
 asP v0 fun b70 b71 =>
 asK (gv ws0 1) fun n73 =>
 aix 24 n73 (
 aix 2 1 (
 st Try.prog h33 4 b70 (at_ (at_ (off b71 227) n73 2) 1 1) (.bool false) fun h34 =>
 ld Try.prog h34 3 (nx h5) (off 0 2) fun v43 =>
 asI .i64 v43 fun n74 =>
 ifB (eq n74 (sub .i64 n1 1)) (
 nil v0 (
 asP v0 fun b72 b73 =>
 asK (gv ws0 1) fun n75 =>
 aix 24 n75 (
 aix 2 (sub .i64 1 1) (
 ld Try.prog h34 4 b72 (at_ (at_ (off b73 227) n75 2) (sub .i64 1 1) 1) fun v44 =>
 asB v44 fun q20 =>
 ifB q20 (
 nil v0 (
 asP v0 fun b74 b75 =>
 asK (gv ws0 1) fun n76 =>
 aix 24 n76 (
 aix 2 (sub .i64 1 1) (
 st Try.prog h34 4 b74 (at_ (at_ (off b75 227) n76 2) (sub .i64 1 1) 1) (.bool false) fun h35 =>
 calls rec h35 87 [v0, (.int .i64 n69), (.int .i64 (sub .i64 n1 1)), (.int .i64 n2)] fun v45 h36 =>
 asB v45 fun q21 =>
 ifB q21 (
 out .ret [(.bool true), gv ws0 1] h36) (
 nil v0 (
 asP v0 fun b76 b77 =>
 asK (gv ws0 1) fun n77 =>
 aix 24 n77 (
 aix 2 (sub .i64 1 1) (
 st Try.prog h36 4 b76 (at_ (at_ (off b77 227) n77 2) (sub .i64 1 1) 1) (.bool true) fun h37 =>
 asI .i64 (gv ws0 1) fun n78 =>
 out .normal [gv ws0 0, (.int .i64 (add .i64 n78 1))] h37)))))))) (
 asI .i64 (gv ws0 1) fun n79 =>
 out .normal [gv ws0 0, (.int .i64 (add .i64 n79 1))] h34))))) (
 asI .i64 (gv ws0 1) fun n80 =>
 out .normal [gv ws0 0, (.int .i64 (add .i64 n80 1))] h34))))))))) (
 ld Try.prog h7 3 (nx h5) (off 0 2) fun v46 =>
 asI .i64 v46 fun n81 =>
 ifB (eq n81 (sub .i64 n1 1)) (
 nil v0 (
 asP v0 fun b78 b79 =>
 asK (gv ws0 1) fun n82 =>
 aix 24 n82 (
 aix 2 (sub .i64 1 1) (
 ld Try.prog h7 4 b78 (at_ (at_ (off b79 227) n82 2) (sub .i64 1 1) 1) fun v47 =>
 asB v47 fun q22 =>
 ifB q22 (
 nil v0 (
 asP v0 fun b80 b81 =>
 asK (gv ws0 1) fun n83 =>
 aix 24 n83 (
 aix 2 (sub .i64 1 1) (
 st Try.prog h7 4 b80 (at_ (at_ (off b81 227) n83 2) (sub .i64 1 1) 1) (.bool false) fun h38 =>
 calls rec h38 87 [v0, (.int .i64 n69), (.int .i64 (sub .i64 n1 1)), (.int .i64 n2)] fun v48 h39 =>
 asB v48 fun q23 =>
 ifB q23 (
 out .ret [(.bool true), gv ws0 1] h39) (
 nil v0 (
 asP v0 fun b82 b83 =>
 asK (gv ws0 1) fun n84 =>
 aix 24 n84 (
 aix 2 (sub .i64 1 1) (
 st Try.prog h39 4 b82 (at_ (at_ (off b83 227) n84 2) (sub .i64 1 1) 1) (.bool true) fun h40 =>
 asI .i64 (gv ws0 1) fun n85 =>
 out .normal [gv ws0 0, (.int .i64 (add .i64 n85 1))] h40)))))))) (
 asI .i64 (gv ws0 1) fun n86 =>
 out .normal [gv ws0 0, (.int .i64 (add .i64 n86 1))] h7))))) (
 asI .i64 (gv ws0 1) fun n87 =>
 out .normal [gv ws0 0, (.int .i64 (add .i64 n87 1))] h7)))))) (
 ld Try.prog h7 3 (nx h5) (off 0 2) fun v49 =>
 asI .i64 v49 fun n88 =>
 ifB (eq n88 (sub .i64 n1 1)) (
 nil v0 (
 asP v0 fun b84 b85 =>
 asK (gv ws0 1) fun n89 =>
 aix 24 n89 (
 aix 2 (sub .i64 1 1) (
 ld Try.prog h7 4 b84 (at_ (at_ (off b85 227) n89 2) (sub .i64 1 1) 1) fun v50 =>
 asB v50 fun q24 =>
 ifB q24 (
 nil v0 (
 asP v0 fun b86 b87 =>
 asK (gv ws0 1) fun n90 =>
 aix 24 n90 (
 aix 2 (sub .i64 1 1) (
 st Try.prog h7 4 b86 (at_ (at_ (off b87 227) n90 2) (sub .i64 1 1) 1) (.bool false) fun h41 =>
 calls rec h41 87 [v0, (.int .i64 n69), (.int .i64 (sub .i64 n1 1)), (.int .i64 n2)] fun v51 h42 =>
 asB v51 fun q25 =>
 ifB q25 (
 out .ret [(.bool true), gv ws0 1] h42) (
 nil v0 (
 asP v0 fun b88 b89 =>
 asK (gv ws0 1) fun n91 =>
 aix 24 n91 (
 aix 2 (sub .i64 1 1) (
 st Try.prog h42 4 b88 (at_ (at_ (off b89 227) n91 2) (sub .i64 1 1) 1) (.bool true) fun h43 =>
 asI .i64 (gv ws0 1) fun n92 =>
 out .normal [gv ws0 0, (.int .i64 (add .i64 n92 1))] h43)))))))) (
 asI .i64 (gv ws0 1) fun n93 =>
 out .normal [gv ws0 0, (.int .i64 (add .i64 n93 1))] h7))))) (
 asI .i64 (gv ws0 1) fun n94 =>
 out .normal [gv ws0 0, (.int .i64 (add .i64 n94 1))] h7))) (
 ld Try.prog h7 3 (nx h5) (off 0 2) fun v52 =>
 asI .i64 v52 fun n95 =>
 ifB (eq n95 n1) (
 nil v0 (
 asP v0 fun b90 b91 =>
 asK (gv ws0 1) fun n96 =>
 aix 24 n96 (
 aix 2 0 (
 ld Try.prog h7 4 b90 (at_ (at_ (off b91 227) n96 2) 0 1) fun v53 =>
 asB v53 fun q26 =>
 ifB (not q26) (
 nil v0 (
 asP v0 fun b92 b93 =>
 asK (gv ws0 1) fun n97 =>
 aix 24 n97 (
 aix 2 0 (
 st Try.prog h7 4 b92 (at_ (at_ (off b93 227) n97 2) 0 1) (.bool true) fun h44 =>
 calls rec h44 87 [v0, (.int .i64 n67), (.int .i64 (add .i64 n1 1)), (.int .i64 n2)] fun v54 h45 =>
 asB v54 fun q27 =>
 ifB q27 (
 out .ret [(.bool true), gv ws0 1] h45) (
 nil v0 (
 asP v0 fun b94 b95 =>
 asK (gv ws0 1) fun n98 =>
 aix 24 n98 (
 aix 2 0 (
 st Try.prog h45 4 b94 (at_ (at_ (off b95 227) n98 2) 0 1) (.bool false) fun h46 =>
 ld Try.prog h46 3 (nx h5) (off 0 2) fun v55 =>
 asI .i64 v55 fun n99 =>
 ifB (eq n99 (sub .i64 n1 1)) (
 nil v0 (
 asP v0 fun b96 b97 =>
 asK (gv ws0 1) fun n100 =>
 aix 24 n100 (
 aix 2 (sub .i64 1 0) (
 ld Try.prog h46 4 b96 (at_ (at_ (off b97 227) n100 2) (sub .i64 1 0) 1) fun v56 =>
 asB v56 fun q28 =>
 ifB q28 (
 nil v0 (
 asP v0 fun b98 b99 =>
 asK (gv ws0 1) fun n101 =>
 aix 24 n101 (
 aix 2 (sub .i64 1 0) (
 st Try.prog h46 4 b98 (at_ (at_ (off b99 227) n101 2) (sub .i64 1 0) 1) (.bool false) fun h47 =>
 calls rec h47 87 [v0, (.int .i64 n67), (.int .i64 (sub .i64 n1 1)), (.int .i64 n2)] fun v57 h48 =>
 asB v57 fun q29 =>
 ifB q29 (
 out .ret [(.bool true), gv ws0 1] h48) (
 nil v0 (
 asP v0 fun b100 b101 =>
 asK (gv ws0 1) fun n102 =>
 aix 24 n102 (
 aix 2 (sub .i64 1 0) (
 st Try.prog h48 4 b100 (at_ (at_ (off b101 227) n102 2) (sub .i64 1 0) 1) (.bool true) fun h49 =>
 asI .i64 (gv ws0 1) fun n103 =>
 out .normal [gv ws0 0, (.int .i64 (add .i64 n103 1))] h49)))))))) (
 asI .i64 (gv ws0 1) fun n104 =>
 out .normal [gv ws0 0, (.int .i64 (add .i64 n104 1))] h46))))) (
 asI .i64 (gv ws0 1) fun n105 =>
 out .normal [gv ws0 0, (.int .i64 (add .i64 n105 1))] h46))))))))) (
 ld Try.prog h7 3 (nx h5) (off 0 2) fun v58 =>
 asI .i64 v58 fun n106 =>
 ifB (eq n106 (sub .i64 n1 1)) (
 nil v0 (
 asP v0 fun b102 b103 =>
 asK (gv ws0 1) fun n107 =>
 aix 24 n107 (
 aix 2 (sub .i64 1 0) (
 ld Try.prog h7 4 b102 (at_ (at_ (off b103 227) n107 2) (sub .i64 1 0) 1) fun v59 =>
 asB v59 fun q30 =>
 ifB q30 (
 nil v0 (
 asP v0 fun b104 b105 =>
 asK (gv ws0 1) fun n108 =>
 aix 24 n108 (
 aix 2 (sub .i64 1 0) (
 st Try.prog h7 4 b104 (at_ (at_ (off b105 227) n108 2) (sub .i64 1 0) 1) (.bool false) fun h50 =>
 calls rec h50 87 [v0, (.int .i64 n67), (.int .i64 (sub .i64 n1 1)), (.int .i64 n2)] fun v60 h51 =>
 asB v60 fun q31 =>
 ifB q31 (
 out .ret [(.bool true), gv ws0 1] h51) (
 nil v0 (
 asP v0 fun b106 b107 =>
 asK (gv ws0 1) fun n109 =>
 aix 24 n109 (
 aix 2 (sub .i64 1 0) (
 st Try.prog h51 4 b106 (at_ (at_ (off b107 227) n109 2) (sub .i64 1 0) 1) (.bool true) fun h52 =>
 asI .i64 (gv ws0 1) fun n110 =>
 out .normal [gv ws0 0, (.int .i64 (add .i64 n110 1))] h52)))))))) (
 asI .i64 (gv ws0 1) fun n111 =>
 out .normal [gv ws0 0, (.int .i64 (add .i64 n111 1))] h7))))) (
 asI .i64 (gv ws0 1) fun n112 =>
 out .normal [gv ws0 0, (.int .i64 (add .i64 n112 1))] h7)))))) (
 ld Try.prog h7 3 (nx h5) (off 0 2) fun v61 =>
 asI .i64 v61 fun n113 =>
 ifB (eq n113 (sub .i64 n1 1)) (
 nil v0 (
 asP v0 fun b108 b109 =>
 asK (gv ws0 1) fun n114 =>
 aix 24 n114 (
 aix 2 (sub .i64 1 0) (
 ld Try.prog h7 4 b108 (at_ (at_ (off b109 227) n114 2) (sub .i64 1 0) 1) fun v62 =>
 asB v62 fun q32 =>
 ifB q32 (
 nil v0 (
 asP v0 fun b110 b111 =>
 asK (gv ws0 1) fun n115 =>
 aix 24 n115 (
 aix 2 (sub .i64 1 0) (
 st Try.prog h7 4 b110 (at_ (at_ (off b111 227) n115 2) (sub .i64 1 0) 1) (.bool false) fun h53 =>
 calls rec h53 87 [v0, (.int .i64 n67), (.int .i64 (sub .i64 n1 1)), (.int .i64 n2)] fun v63 h54 =>
 asB v63 fun q33 =>
 ifB q33 (
 out .ret [(.bool true), gv ws0 1] h54) (
 nil v0 (
 asP v0 fun b112 b113 =>
 asK (gv ws0 1) fun n116 =>
 aix 24 n116 (
 aix 2 (sub .i64 1 0) (
 st Try.prog h54 4 b112 (at_ (at_ (off b113 227) n116 2) (sub .i64 1 0) 1) (.bool true) fun h55 =>
 asI .i64 (gv ws0 1) fun n117 =>
 out .normal [gv ws0 0, (.int .i64 (add .i64 n117 1))] h55)))))))) (
 asI .i64 (gv ws0 1) fun n118 =>
 out .normal [gv ws0 0, (.int .i64 (add .i64 n118 1))] h7))))) (
 asI .i64 (gv ws0 1) fun n119 =>
 out .normal [gv ws0 0, (.int .i64 (add .i64 n119 1))] h7)))))))) (
 out (.exit 0) [gv ws0 0, gv ws0 1] h5)
noncomputable def f87_l2 (rec : Rec) (_k : Nat) (v0 : Value) (n0 : Int) (n1 : Int) (n2 : Int) (v68 : Value) (n123 : Int) (ws2 : List Value) (h60 : H) : Option (Ex × List Value × H) :=
 asI .i64 (gv ws2 1) fun n124 =>
 ifB (lt n124 n123) (
 asK (gv ws2 1) fun n125 =>
 six v68 n125 3 fun b126 b127 =>
 ld Try.prog h60 59 b126 b127 fun v69 =>
 al h60 59 [(.int .i64 0), (.int .i64 0), (.int .i64 0)] fun h61 =>
 st Try.prog h61 59 (nx h60) 0 v69 fun h62 =>
 nil v0 (
 asP v0 fun b128 b129 =>
 ld Try.prog h62 3 b128 (off b129 2) fun v70 =>
 asI .i64 v70 fun n126 =>
 asK (gv ws2 1) fun n127 =>
 nn n127 (
 ifB (eq (and .i64 (shr .i64 n126 n127) 1) 1) (
 asI .i64 (gv ws2 1) fun n128 =>
 out .normal [gv ws2 0, (.int .i64 (add .i64 n128 1))] h62) (
 ld Try.prog h62 3 (nx h60) 0 fun v71 =>
 asI .i64 v71 fun n129 =>
 ifB (not (eq n129 n0)) (
 ld Try.prog h62 3 (nx h60) (off 0 1) fun v72 =>
 asI .i64 v72 fun n130 =>
 ifB (not (eq n130 n0)) (
 asI .i64 (gv ws2 1) fun n131 =>
 out .normal [gv ws2 0, (.int .i64 (add .i64 n131 1))] h62) (
 ld Try.prog h62 3 (nx h60) (off 0 1) fun v73 =>
 asI .i64 v73 fun n132 =>
 ld Try.prog h62 3 (nx h60) (off 0 1) fun v74 =>
 asI .i64 v74 fun n133 =>
 ifB (eq n133 n0) (
 ld Try.prog h62 3 (nx h60) 0 fun v75 =>
 asI .i64 v75 fun n134 =>
 ld Try.prog h62 3 (nx h60) (off 0 2) fun v76 =>
 asI .i64 v76 fun n135 =>
 ifB (eq n135 n1) (
 nil v0 (
 asP v0 fun b130 b131 =>
 asK (gv ws2 1) fun n136 =>
 aix 24 n136 (
 aix 2 1 (
 ld Try.prog h62 4 b130 (at_ (at_ (off b131 227) n136 2) 1 1) fun v77 =>
 asB v77 fun q35 =>
 ifB (not q35) (
 nil v0 (
 asP v0 fun b132 b133 =>
 asK (gv ws2 1) fun n137 =>
 aix 24 n137 (
 aix 2 1 (
 st Try.prog h62 4 b132 (at_ (at_ (off b133 227) n137 2) 1 1) (.bool true) fun h63 =>
 calls rec h63 87 [v0, (.int .i64 n134), (.int .i64 (add .i64 n1 1)), (.int .i64 n2)] fun v78 h64 =>
 asB v78 fun q36 =>
 ifB q36 (
 out .ret [(.bool true), gv ws2 1] h64) (
 nil v0 (
 asP v0 fun b134 b135 =>
 asK (gv ws2 1) fun n138 =>
 aix 24 n138 (
 aix 2 1 (
 st Try.prog h64 4 b134 (at_ (at_ (off b135 227) n138 2) 1 1) (.bool false) fun h65 =>
 ld Try.prog h65 3 (nx h60) (off 0 2) fun v79 =>
 asI .i64 v79 fun n139 =>
 ifB (eq n139 (sub .i64 n1 1)) (
 nil v0 (
 asP v0 fun b136 b137 =>
 asK (gv ws2 1) fun n140 =>
 aix 24 n140 (
 aix 2 (sub .i64 1 1) (
 ld Try.prog h65 4 b136 (at_ (at_ (off b137 227) n140 2) (sub .i64 1 1) 1) fun v80 =>
 asB v80 fun q37 =>
 ifB q37 (
 nil v0 (
 asP v0 fun b138 b139 =>
 asK (gv ws2 1) fun n141 =>
 aix 24 n141 (
 aix 2 (sub .i64 1 1) (
 st Try.prog h65 4 b138 (at_ (at_ (off b139 227) n141 2) (sub .i64 1 1) 1) (.bool false) fun h66 =>
 calls rec h66 87 [v0, (.int .i64 n134), (.int .i64 (sub .i64 n1 1)), (.int .i64 n2)] fun v81 h67 =>
 asB v81 fun q38 =>
 ifB q38 (
 out .ret [(.bool true), gv ws2 1] h67) (
 nil v0 (
 asP v0 fun b140 b141 =>
 asK (gv ws2 1) fun n142 =>
 aix 24 n142 (
 aix 2 (sub .i64 1 1) (
 st Try.prog h67 4 b140 (at_ (at_ (off b141 227) n142 2) (sub .i64 1 1) 1) (.bool true) fun h68 =>
 asI .i64 (gv ws2 1) fun n143 =>
 out .normal [gv ws2 0, (.int .i64 (add .i64 n143 1))] h68)))))))) (
 asI .i64 (gv ws2 1) fun n144 =>
 out .normal [gv ws2 0, (.int .i64 (add .i64 n144 1))] h65))))) (
 asI .i64 (gv ws2 1) fun n145 =>
 out .normal [gv ws2 0, (.int .i64 (add .i64 n145 1))] h65))))))))) (
 ld Try.prog h62 3 (nx h60) (off 0 2) fun v82 =>
 asI .i64 v82 fun n146 =>
 ifB (eq n146 (sub .i64 n1 1)) (
 nil v0 (
 asP v0 fun b142 b143 =>
 asK (gv ws2 1) fun n147 =>
 aix 24 n147 (
 aix 2 (sub .i64 1 1) (
 ld Try.prog h62 4 b142 (at_ (at_ (off b143 227) n147 2) (sub .i64 1 1) 1) fun v83 =>
 asB v83 fun q39 =>
 ifB q39 (
 nil v0 (
 asP v0 fun b144 b145 =>
 asK (gv ws2 1) fun n148 =>
 aix 24 n148 (
 aix 2 (sub .i64 1 1) (
 st Try.prog h62 4 b144 (at_ (at_ (off b145 227) n148 2) (sub .i64 1 1) 1) (.bool false) fun h69 =>
 calls rec h69 87 [v0, (.int .i64 n134), (.int .i64 (sub .i64 n1 1)), (.int .i64 n2)] fun v84 h70 =>
 asB v84 fun q40 =>
 ifB q40 (
 out .ret [(.bool true), gv ws2 1] h70) (
 nil v0 (
 asP v0 fun b146 b147 =>
 asK (gv ws2 1) fun n149 =>
 aix 24 n149 (
 aix 2 (sub .i64 1 1) (
 st Try.prog h70 4 b146 (at_ (at_ (off b147 227) n149 2) (sub .i64 1 1) 1) (.bool true) fun h71 =>
 asI .i64 (gv ws2 1) fun n150 =>
 out .normal [gv ws2 0, (.int .i64 (add .i64 n150 1))] h71)))))))) (
 asI .i64 (gv ws2 1) fun n151 =>
 out .normal [gv ws2 0, (.int .i64 (add .i64 n151 1))] h62))))) (
 asI .i64 (gv ws2 1) fun n152 =>
 out .normal [gv ws2 0, (.int .i64 (add .i64 n152 1))] h62)))))) (
 ld Try.prog h62 3 (nx h60) (off 0 2) fun v85 =>
 asI .i64 v85 fun n153 =>
 ifB (eq n153 (sub .i64 n1 1)) (
 nil v0 (
 asP v0 fun b148 b149 =>
 asK (gv ws2 1) fun n154 =>
 aix 24 n154 (
 aix 2 (sub .i64 1 1) (
 ld Try.prog h62 4 b148 (at_ (at_ (off b149 227) n154 2) (sub .i64 1 1) 1) fun v86 =>
 asB v86 fun q41 =>
 ifB q41 (
 nil v0 (
 asP v0 fun b150 b151 =>
 asK (gv ws2 1) fun n155 =>
 aix 24 n155 (
 aix 2 (sub .i64 1 1) (
 st Try.prog h62 4 b150 (at_ (at_ (off b151 227) n155 2) (sub .i64 1 1) 1) (.bool false) fun h72 =>
 calls rec h72 87 [v0, (.int .i64 n134), (.int .i64 (sub .i64 n1 1)), (.int .i64 n2)] fun v87 h73 =>
 asB v87 fun q42 =>
 ifB q42 (
 out .ret [(.bool true), gv ws2 1] h73) (
 nil v0 (
 asP v0 fun b152 b153 =>
 asK (gv ws2 1) fun n156 =>
 aix 24 n156 (
 aix 2 (sub .i64 1 1) (
 st Try.prog h73 4 b152 (at_ (at_ (off b153 227) n156 2) (sub .i64 1 1) 1) (.bool true) fun h74 =>
 asI .i64 (gv ws2 1) fun n157 =>
 out .normal [gv ws2 0, (.int .i64 (add .i64 n157 1))] h74)))))))) (
 asI .i64 (gv ws2 1) fun n158 =>
 out .normal [gv ws2 0, (.int .i64 (add .i64 n158 1))] h62))))) (
 asI .i64 (gv ws2 1) fun n159 =>
 out .normal [gv ws2 0, (.int .i64 (add .i64 n159 1))] h62))) (
 ld Try.prog h62 3 (nx h60) (off 0 2) fun v88 =>
 asI .i64 v88 fun n160 =>
 ifB (eq n160 n1) (
 nil v0 (
 asP v0 fun b154 b155 =>
 asK (gv ws2 1) fun n161 =>
 aix 24 n161 (
 aix 2 0 (
 ld Try.prog h62 4 b154 (at_ (at_ (off b155 227) n161 2) 0 1) fun v89 =>
 asB v89 fun q43 =>
 ifB (not q43) (
 nil v0 (
 asP v0 fun b156 b157 =>
 asK (gv ws2 1) fun n162 =>
 aix 24 n162 (
 aix 2 0 (
 st Try.prog h62 4 b156 (at_ (at_ (off b157 227) n162 2) 0 1) (.bool true) fun h75 =>
 calls rec h75 87 [v0, (.int .i64 n132), (.int .i64 (add .i64 n1 1)), (.int .i64 n2)] fun v90 h76 =>
 asB v90 fun q44 =>
 ifB q44 (
 out .ret [(.bool true), gv ws2 1] h76) (
 nil v0 (
 asP v0 fun b158 b159 =>
 asK (gv ws2 1) fun n163 =>
 aix 24 n163 (
 aix 2 0 (
 st Try.prog h76 4 b158 (at_ (at_ (off b159 227) n163 2) 0 1) (.bool false) fun h77 =>
 ld Try.prog h77 3 (nx h60) (off 0 2) fun v91 =>
 asI .i64 v91 fun n164 =>
 ifB (eq n164 (sub .i64 n1 1)) (
 nil v0 (
 asP v0 fun b160 b161 =>
 asK (gv ws2 1) fun n165 =>
 aix 24 n165 (
 aix 2 (sub .i64 1 0) (
 ld Try.prog h77 4 b160 (at_ (at_ (off b161 227) n165 2) (sub .i64 1 0) 1) fun v92 =>
 asB v92 fun q45 =>
 ifB q45 (
 nil v0 (
 asP v0 fun b162 b163 =>
 asK (gv ws2 1) fun n166 =>
 aix 24 n166 (
 aix 2 (sub .i64 1 0) (
 st Try.prog h77 4 b162 (at_ (at_ (off b163 227) n166 2) (sub .i64 1 0) 1) (.bool false) fun h78 =>
 calls rec h78 87 [v0, (.int .i64 n132), (.int .i64 (sub .i64 n1 1)), (.int .i64 n2)] fun v93 h79 =>
 asB v93 fun q46 =>
 ifB q46 (
 out .ret [(.bool true), gv ws2 1] h79) (
 nil v0 (
 asP v0 fun b164 b165 =>
 asK (gv ws2 1) fun n167 =>
 aix 24 n167 (
 aix 2 (sub .i64 1 0) (
 st Try.prog h79 4 b164 (at_ (at_ (off b165 227) n167 2) (sub .i64 1 0) 1) (.bool true) fun h80 =>
 asI .i64 (gv ws2 1) fun n168 =>
 out .normal [gv ws2 0, (.int .i64 (add .i64 n168 1))] h80)))))))) (
 asI .i64 (gv ws2 1) fun n169 =>
 out .normal [gv ws2 0, (.int .i64 (add .i64 n169 1))] h77))))) (
 asI .i64 (gv ws2 1) fun n170 =>
 out .normal [gv ws2 0, (.int .i64 (add .i64 n170 1))] h77))))))))) (
 ld Try.prog h62 3 (nx h60) (off 0 2) fun v94 =>
 asI .i64 v94 fun n171 =>
 ifB (eq n171 (sub .i64 n1 1)) (
 nil v0 (
 asP v0 fun b166 b167 =>
 asK (gv ws2 1) fun n172 =>
 aix 24 n172 (
 aix 2 (sub .i64 1 0) (
 ld Try.prog h62 4 b166 (at_ (at_ (off b167 227) n172 2) (sub .i64 1 0) 1) fun v95 =>
 asB v95 fun q47 =>
 ifB q47 (
 nil v0 (
 asP v0 fun b168 b169 =>
 asK (gv ws2 1) fun n173 =>
 aix 24 n173 (
 aix 2 (sub .i64 1 0) (
 st Try.prog h62 4 b168 (at_ (at_ (off b169 227) n173 2) (sub .i64 1 0) 1) (.bool false) fun h81 =>
 calls rec h81 87 [v0, (.int .i64 n132), (.int .i64 (sub .i64 n1 1)), (.int .i64 n2)] fun v96 h82 =>
 asB v96 fun q48 =>
 ifB q48 (
 out .ret [(.bool true), gv ws2 1] h82) (
 nil v0 (
 asP v0 fun b170 b171 =>
 asK (gv ws2 1) fun n174 =>
 aix 24 n174 (
 aix 2 (sub .i64 1 0) (
 st Try.prog h82 4 b170 (at_ (at_ (off b171 227) n174 2) (sub .i64 1 0) 1) (.bool true) fun h83 =>
 asI .i64 (gv ws2 1) fun n175 =>
 out .normal [gv ws2 0, (.int .i64 (add .i64 n175 1))] h83)))))))) (
 asI .i64 (gv ws2 1) fun n176 =>
 out .normal [gv ws2 0, (.int .i64 (add .i64 n176 1))] h62))))) (
 asI .i64 (gv ws2 1) fun n177 =>
 out .normal [gv ws2 0, (.int .i64 (add .i64 n177 1))] h62)))))) (
 ld Try.prog h62 3 (nx h60) (off 0 2) fun v97 =>
 asI .i64 v97 fun n178 =>
 ifB (eq n178 (sub .i64 n1 1)) (
 nil v0 (
 asP v0 fun b172 b173 =>
 asK (gv ws2 1) fun n179 =>
 aix 24 n179 (
 aix 2 (sub .i64 1 0) (
 ld Try.prog h62 4 b172 (at_ (at_ (off b173 227) n179 2) (sub .i64 1 0) 1) fun v98 =>
 asB v98 fun q49 =>
 ifB q49 (
 nil v0 (
 asP v0 fun b174 b175 =>
 asK (gv ws2 1) fun n180 =>
 aix 24 n180 (
 aix 2 (sub .i64 1 0) (
 st Try.prog h62 4 b174 (at_ (at_ (off b175 227) n180 2) (sub .i64 1 0) 1) (.bool false) fun h84 =>
 calls rec h84 87 [v0, (.int .i64 n132), (.int .i64 (sub .i64 n1 1)), (.int .i64 n2)] fun v99 h85 =>
 asB v99 fun q50 =>
 ifB q50 (
 out .ret [(.bool true), gv ws2 1] h85) (
 nil v0 (
 asP v0 fun b176 b177 =>
 asK (gv ws2 1) fun n181 =>
 aix 24 n181 (
 aix 2 (sub .i64 1 0) (
 st Try.prog h85 4 b176 (at_ (at_ (off b177 227) n181 2) (sub .i64 1 0) 1) (.bool true) fun h86 =>
 asI .i64 (gv ws2 1) fun n182 =>
 out .normal [gv ws2 0, (.int .i64 (add .i64 n182 1))] h86)))))))) (
 asI .i64 (gv ws2 1) fun n183 =>
 out .normal [gv ws2 0, (.int .i64 (add .i64 n183 1))] h62))))) (
 asI .i64 (gv ws2 1) fun n184 =>
 out .normal [gv ws2 0, (.int .i64 (add .i64 n184 1))] h62))))) (
 ld Try.prog h62 3 (nx h60) (off 0 1) fun v100 =>
 asI .i64 v100 fun n185 =>
 ld Try.prog h62 3 (nx h60) (off 0 1) fun v101 =>
 asI .i64 v101 fun n186 =>
 ifB (eq n186 n0) (
 ld Try.prog h62 3 (nx h60) 0 fun v102 =>
 asI .i64 v102 fun n187 =>
 ld Try.prog h62 3 (nx h60) (off 0 2) fun v103 =>
 asI .i64 v103 fun n188 =>
 ifB (eq n188 n1) (
 nil v0 (
 asP v0 fun b178 b179 =>
 asK (gv ws2 1) fun n189 =>
 aix 24 n189 (
 aix 2 1 (
 ld Try.prog h62 4 b178 (at_ (at_ (off b179 227) n189 2) 1 1) fun v104 =>
 asB v104 fun q51 =>
 ifB (not q51) (
 nil v0 (
 asP v0 fun b180 b181 =>
 asK (gv ws2 1) fun n190 =>
 aix 24 n190 (
 aix 2 1 (
 st Try.prog h62 4 b180 (at_ (at_ (off b181 227) n190 2) 1 1) (.bool true) fun h87 =>
 calls rec h87 87 [v0, (.int .i64 n187), (.int .i64 (add .i64 n1 1)), (.int .i64 n2)] fun v105 h88 =>
 asB v105 fun q52 =>
 ifB q52 (
 out .ret [(.bool true), gv ws2 1] h88) (
 nil v0 (
 asP v0 fun b182 b183 =>
 asK (gv ws2 1) fun n191 =>
 aix 24 n191 (
 aix 2 1 (
 st Try.prog h88 4 b182 (at_ (at_ (off b183 227) n191 2) 1 1) (.bool false) fun h89 =>
 ld Try.prog h89 3 (nx h60) (off 0 2) fun v106 =>
 asI .i64 v106 fun n192 =>
 ifB (eq n192 (sub .i64 n1 1)) (
 nil v0 (
 asP v0 fun b184 b185 =>
 asK (gv ws2 1) fun n193 =>
 aix 24 n193 (
 aix 2 (sub .i64 1 1) (
 ld Try.prog h89 4 b184 (at_ (at_ (off b185 227) n193 2) (sub .i64 1 1) 1) fun v107 =>
 asB v107 fun q53 =>
 ifB q53 (
 nil v0 (
 asP v0 fun b186 b187 =>
 asK (gv ws2 1) fun n194 =>
 aix 24 n194 (
 aix 2 (sub .i64 1 1) (
 st Try.prog h89 4 b186 (at_ (at_ (off b187 227) n194 2) (sub .i64 1 1) 1) (.bool false) fun h90 =>
 calls rec h90 87 [v0, (.int .i64 n187), (.int .i64 (sub .i64 n1 1)), (.int .i64 n2)] fun v108 h91 =>
 asB v108 fun q54 =>
 ifB q54 (
 out .ret [(.bool true), gv ws2 1] h91) (
 nil v0 (
 asP v0 fun b188 b189 =>
 asK (gv ws2 1) fun n195 =>
 aix 24 n195 (
 aix 2 (sub .i64 1 1) (
 st Try.prog h91 4 b188 (at_ (at_ (off b189 227) n195 2) (sub .i64 1 1) 1) (.bool true) fun h92 =>
 asI .i64 (gv ws2 1) fun n196 =>
 out .normal [gv ws2 0, (.int .i64 (add .i64 n196 1))] h92)))))))) (
 asI .i64 (gv ws2 1) fun n197 =>
 out .normal [gv ws2 0, (.int .i64 (add .i64 n197 1))] h89))))) (
 asI .i64 (gv ws2 1) fun n198 =>
 out .normal [gv ws2 0, (.int .i64 (add .i64 n198 1))] h89))))))))) (
 ld Try.prog h62 3 (nx h60) (off 0 2) fun v109 =>
 asI .i64 v109 fun n199 =>
 ifB (eq n199 (sub .i64 n1 1)) (
 nil v0 (
 asP v0 fun b190 b191 =>
 asK (gv ws2 1) fun n200 =>
 aix 24 n200 (
 aix 2 (sub .i64 1 1) (
 ld Try.prog h62 4 b190 (at_ (at_ (off b191 227) n200 2) (sub .i64 1 1) 1) fun v110 =>
 asB v110 fun q55 =>
 ifB q55 (
 nil v0 (
 asP v0 fun b192 b193 =>
 asK (gv ws2 1) fun n201 =>
 aix 24 n201 (
 aix 2 (sub .i64 1 1) (
 st Try.prog h62 4 b192 (at_ (at_ (off b193 227) n201 2) (sub .i64 1 1) 1) (.bool false) fun h93 =>
 calls rec h93 87 [v0, (.int .i64 n187), (.int .i64 (sub .i64 n1 1)), (.int .i64 n2)] fun v111 h94 =>
 asB v111 fun q56 =>
 ifB q56 (
 out .ret [(.bool true), gv ws2 1] h94) (
 nil v0 (
 asP v0 fun b194 b195 =>
 asK (gv ws2 1) fun n202 =>
 aix 24 n202 (
 aix 2 (sub .i64 1 1) (
 st Try.prog h94 4 b194 (at_ (at_ (off b195 227) n202 2) (sub .i64 1 1) 1) (.bool true) fun h95 =>
 asI .i64 (gv ws2 1) fun n203 =>
 out .normal [gv ws2 0, (.int .i64 (add .i64 n203 1))] h95)))))))) (
 asI .i64 (gv ws2 1) fun n204 =>
 out .normal [gv ws2 0, (.int .i64 (add .i64 n204 1))] h62))))) (
 asI .i64 (gv ws2 1) fun n205 =>
 out .normal [gv ws2 0, (.int .i64 (add .i64 n205 1))] h62)))))) (
 ld Try.prog h62 3 (nx h60) (off 0 2) fun v112 =>
 asI .i64 v112 fun n206 =>
 ifB (eq n206 (sub .i64 n1 1)) (
 nil v0 (
 asP v0 fun b196 b197 =>
 asK (gv ws2 1) fun n207 =>
 aix 24 n207 (
 aix 2 (sub .i64 1 1) (
 ld Try.prog h62 4 b196 (at_ (at_ (off b197 227) n207 2) (sub .i64 1 1) 1) fun v113 =>
 asB v113 fun q57 =>
 ifB q57 (
 nil v0 (
 asP v0 fun b198 b199 =>
 asK (gv ws2 1) fun n208 =>
 aix 24 n208 (
 aix 2 (sub .i64 1 1) (
 st Try.prog h62 4 b198 (at_ (at_ (off b199 227) n208 2) (sub .i64 1 1) 1) (.bool false) fun h96 =>
 calls rec h96 87 [v0, (.int .i64 n187), (.int .i64 (sub .i64 n1 1)), (.int .i64 n2)] fun v114 h97 =>
 asB v114 fun q58 =>
 ifB q58 (
 out .ret [(.bool true), gv ws2 1] h97) (
 nil v0 (
 asP v0 fun b200 b201 =>
 asK (gv ws2 1) fun n209 =>
 aix 24 n209 (
 aix 2 (sub .i64 1 1) (
 st Try.prog h97 4 b200 (at_ (at_ (off b201 227) n209 2) (sub .i64 1 1) 1) (.bool true) fun h98 =>
 asI .i64 (gv ws2 1) fun n210 =>
 out .normal [gv ws2 0, (.int .i64 (add .i64 n210 1))] h98)))))))) (
 asI .i64 (gv ws2 1) fun n211 =>
 out .normal [gv ws2 0, (.int .i64 (add .i64 n211 1))] h62))))) (
 asI .i64 (gv ws2 1) fun n212 =>
 out .normal [gv ws2 0, (.int .i64 (add .i64 n212 1))] h62))) (
 ld Try.prog h62 3 (nx h60) (off 0 2) fun v115 =>
 asI .i64 v115 fun n213 =>
 ifB (eq n213 n1) (
 nil v0 (
 asP v0 fun b202 b203 =>
 asK (gv ws2 1) fun n214 =>
 aix 24 n214 (
 aix 2 0 (
 ld Try.prog h62 4 b202 (at_ (at_ (off b203 227) n214 2) 0 1) fun v116 =>
 asB v116 fun q59 =>
 ifB (not q59) (
 nil v0 (
 asP v0 fun b204 b205 =>
 asK (gv ws2 1) fun n215 =>
 aix 24 n215 (
 aix 2 0 (
 st Try.prog h62 4 b204 (at_ (at_ (off b205 227) n215 2) 0 1) (.bool true) fun h99 =>
 calls rec h99 87 [v0, (.int .i64 n185), (.int .i64 (add .i64 n1 1)), (.int .i64 n2)] fun v117 h100 =>
 asB v117 fun q60 =>
 ifB q60 (
 out .ret [(.bool true), gv ws2 1] h100) (
 nil v0 (
 asP v0 fun b206 b207 =>
 asK (gv ws2 1) fun n216 =>
 aix 24 n216 (
 aix 2 0 (
 st Try.prog h100 4 b206 (at_ (at_ (off b207 227) n216 2) 0 1) (.bool false) fun h101 =>
 ld Try.prog h101 3 (nx h60) (off 0 2) fun v118 =>
 asI .i64 v118 fun n217 =>
 ifB (eq n217 (sub .i64 n1 1)) (
 nil v0 (
 asP v0 fun b208 b209 =>
 asK (gv ws2 1) fun n218 =>
 aix 24 n218 (
 aix 2 (sub .i64 1 0) (
 ld Try.prog h101 4 b208 (at_ (at_ (off b209 227) n218 2) (sub .i64 1 0) 1) fun v119 =>
 asB v119 fun q61 =>
 ifB q61 (
 nil v0 (
 asP v0 fun b210 b211 =>
 asK (gv ws2 1) fun n219 =>
 aix 24 n219 (
 aix 2 (sub .i64 1 0) (
 st Try.prog h101 4 b210 (at_ (at_ (off b211 227) n219 2) (sub .i64 1 0) 1) (.bool false) fun h102 =>
 calls rec h102 87 [v0, (.int .i64 n185), (.int .i64 (sub .i64 n1 1)), (.int .i64 n2)] fun v120 h103 =>
 asB v120 fun q62 =>
 ifB q62 (
 out .ret [(.bool true), gv ws2 1] h103) (
 nil v0 (
 asP v0 fun b212 b213 =>
 asK (gv ws2 1) fun n220 =>
 aix 24 n220 (
 aix 2 (sub .i64 1 0) (
 st Try.prog h103 4 b212 (at_ (at_ (off b213 227) n220 2) (sub .i64 1 0) 1) (.bool true) fun h104 =>
 asI .i64 (gv ws2 1) fun n221 =>
 out .normal [gv ws2 0, (.int .i64 (add .i64 n221 1))] h104)))))))) (
 asI .i64 (gv ws2 1) fun n222 =>
 out .normal [gv ws2 0, (.int .i64 (add .i64 n222 1))] h101))))) (
 asI .i64 (gv ws2 1) fun n223 =>
 out .normal [gv ws2 0, (.int .i64 (add .i64 n223 1))] h101))))))))) (
 ld Try.prog h62 3 (nx h60) (off 0 2) fun v121 =>
 asI .i64 v121 fun n224 =>
 ifB (eq n224 (sub .i64 n1 1)) (
 nil v0 (
 asP v0 fun b214 b215 =>
 asK (gv ws2 1) fun n225 =>
 aix 24 n225 (
 aix 2 (sub .i64 1 0) (
 ld Try.prog h62 4 b214 (at_ (at_ (off b215 227) n225 2) (sub .i64 1 0) 1) fun v122 =>
 asB v122 fun q63 =>
 ifB q63 (
 nil v0 (
 asP v0 fun b216 b217 =>
 asK (gv ws2 1) fun n226 =>
 aix 24 n226 (
 aix 2 (sub .i64 1 0) (
 st Try.prog h62 4 b216 (at_ (at_ (off b217 227) n226 2) (sub .i64 1 0) 1) (.bool false) fun h105 =>
 calls rec h105 87 [v0, (.int .i64 n185), (.int .i64 (sub .i64 n1 1)), (.int .i64 n2)] fun v123 h106 =>
 asB v123 fun q64 =>
 ifB q64 (
 out .ret [(.bool true), gv ws2 1] h106) (
 nil v0 (
 asP v0 fun b218 b219 =>
 asK (gv ws2 1) fun n227 =>
 aix 24 n227 (
 aix 2 (sub .i64 1 0) (
 st Try.prog h106 4 b218 (at_ (at_ (off b219 227) n227 2) (sub .i64 1 0) 1) (.bool true) fun h107 =>
 asI .i64 (gv ws2 1) fun n228 =>
 out .normal [gv ws2 0, (.int .i64 (add .i64 n228 1))] h107)))))))) (
 asI .i64 (gv ws2 1) fun n229 =>
 out .normal [gv ws2 0, (.int .i64 (add .i64 n229 1))] h62))))) (
 asI .i64 (gv ws2 1) fun n230 =>
 out .normal [gv ws2 0, (.int .i64 (add .i64 n230 1))] h62)))))) (
 ld Try.prog h62 3 (nx h60) (off 0 2) fun v124 =>
 asI .i64 v124 fun n231 =>
 ifB (eq n231 (sub .i64 n1 1)) (
 nil v0 (
 asP v0 fun b220 b221 =>
 asK (gv ws2 1) fun n232 =>
 aix 24 n232 (
 aix 2 (sub .i64 1 0) (
 ld Try.prog h62 4 b220 (at_ (at_ (off b221 227) n232 2) (sub .i64 1 0) 1) fun v125 =>
 asB v125 fun q65 =>
 ifB q65 (
 nil v0 (
 asP v0 fun b222 b223 =>
 asK (gv ws2 1) fun n233 =>
 aix 24 n233 (
 aix 2 (sub .i64 1 0) (
 st Try.prog h62 4 b222 (at_ (at_ (off b223 227) n233 2) (sub .i64 1 0) 1) (.bool false) fun h108 =>
 calls rec h108 87 [v0, (.int .i64 n185), (.int .i64 (sub .i64 n1 1)), (.int .i64 n2)] fun v126 h109 =>
 asB v126 fun q66 =>
 ifB q66 (
 out .ret [(.bool true), gv ws2 1] h109) (
 nil v0 (
 asP v0 fun b224 b225 =>
 asK (gv ws2 1) fun n234 =>
 aix 24 n234 (
 aix 2 (sub .i64 1 0) (
 st Try.prog h109 4 b224 (at_ (at_ (off b225 227) n234 2) (sub .i64 1 0) 1) (.bool true) fun h110 =>
 asI .i64 (gv ws2 1) fun n235 =>
 out .normal [gv ws2 0, (.int .i64 (add .i64 n235 1))] h110)))))))) (
 asI .i64 (gv ws2 1) fun n236 =>
 out .normal [gv ws2 0, (.int .i64 (add .i64 n236 1))] h62))))) (
 asI .i64 (gv ws2 1) fun n237 =>
 out .normal [gv ws2 0, (.int .i64 (add .i64 n237 1))] h62)))))))) (
 out (.exit 0) [gv ws2 0, gv ws2 1] h60)
noncomputable def f87 (rec : Rec) (k : Nat) (v0 : Value) (n0 : Int) (n1 : Int) (n2 : Int) (h0 : H) : Option (Value × H) :=
 ifB (eq n0 n2) (
 some ((.bool true), h0)) (
 ifB (lt n1 0) (
 some ((.bool false), h0)) (
 ifB (lt 31 n1) (
 some ((.bool false), h0)) (
 nil v0 (
 asP v0 fun b0 b1 =>
 aix 224 (add .i64 (mul .i64 32 n0) n1) (
 ld Try.prog h0 4 b0 (at_ (off b1 275) (add .i64 (mul .i64 32 n0) n1) 1) fun v1 =>
 asB v1 fun q0 =>
 ifB q0 (
 some ((.bool false), h0)) (
 nil v0 (
 asP v0 fun b2 b3 =>
 aix 224 (add .i64 (mul .i64 32 n0) n1) (
 st Try.prog h0 4 b2 (at_ (off b3 275) (add .i64 (mul .i64 32 n0) n1) 1) (.bool true) fun h1 =>
 ifB (lt n1 31) (
 nil v0 (
 asP v0 fun b4 b5 =>
 aix 224 (add .i64 (mul .i64 32 n0) n1) (
 ld Try.prog h1 3 b4 (at_ (off b5 3) (add .i64 (mul .i64 32 n0) n1) 1) fun v2 =>
 asI .i64 v2 fun n3 =>
 nil v0 (
 asP v0 fun b6 b7 =>
 aix 224 (add .i64 (mul .i64 32 n0) n1) (
 st Try.prog h1 3 b6 (at_ (off b7 3) (add .i64 (mul .i64 32 n0) n1) 1) (.int .i64 (add .i64 n3 1)) fun h2 =>
 calls rec h2 87 [v0, (.int .i64 n0), (.int .i64 (add .i64 n1 1)), (.int .i64 n2)] fun v3 h3 =>
 asB v3 fun q1 =>
 ifB q1 (
 some ((.bool true), h3)) (
 nil v0 (
 asP v0 fun b8 b9 =>
 aix 224 (add .i64 (mul .i64 32 n0) n1) (
 ld Try.prog h3 3 b8 (at_ (off b9 3) (add .i64 (mul .i64 32 n0) n1) 1) fun v4 =>
 asI .i64 v4 fun n4 =>
 nil v0 (
 asP v0 fun b10 b11 =>
 aix 224 (add .i64 (mul .i64 32 n0) n1) (
 st Try.prog h3 3 b10 (at_ (off b11 3) (add .i64 (mul .i64 32 n0) n1) 1) (.int .i64 (sub .i64 n4 1)) fun h4 =>
 nil v0 (
 asP v0 fun b12 b13 =>
 ld Try.prog h4 22 b12 (off b13 1) fun v5 =>
 len v5 fun n5 =>
 lp k (f87_l1 rec k v0 n0 n1 n2 v5 n5) [(.bool false), (.int .i64 0)] h4 fun e0 ws1 h56 =>
 onE e0 0 (
 ifB (lt 0 n1) (
 nil v0 (
 asP v0 fun b114 b115 =>
 aix 224 (sub .i64 (add .i64 (mul .i64 32 n0) n1) 1) (
 ld Try.prog h56 3 b114 (at_ (off b115 3) (sub .i64 (add .i64 (mul .i64 32 n0) n1) 1) 1) fun v64 =>
 asI .i64 v64 fun n120 =>
 ifB (lt 0 n120) (
 nil v0 (
 asP v0 fun b116 b117 =>
 aix 224 (sub .i64 (add .i64 (mul .i64 32 n0) n1) 1) (
 ld Try.prog h56 3 b116 (at_ (off b117 3) (sub .i64 (add .i64 (mul .i64 32 n0) n1) 1) 1) fun v65 =>
 asI .i64 v65 fun n121 =>
 nil v0 (
 asP v0 fun b118 b119 =>
 aix 224 (sub .i64 (add .i64 (mul .i64 32 n0) n1) 1) (
 st Try.prog h56 3 b118 (at_ (off b119 3) (sub .i64 (add .i64 (mul .i64 32 n0) n1) 1) 1) (.int .i64 (sub .i64 n121 1)) fun h57 =>
 calls rec h57 87 [v0, (.int .i64 n0), (.int .i64 (sub .i64 n1 1)), (.int .i64 n2)] fun v66 h58 =>
 asB v66 fun q34 =>
 ifB q34 (
 some ((.bool true), h58)) (
 nil v0 (
 asP v0 fun b120 b121 =>
 aix 224 (sub .i64 (add .i64 (mul .i64 32 n0) n1) 1) (
 ld Try.prog h58 3 b120 (at_ (off b121 3) (sub .i64 (add .i64 (mul .i64 32 n0) n1) 1) 1) fun v67 =>
 asI .i64 v67 fun n122 =>
 nil v0 (
 asP v0 fun b122 b123 =>
 aix 224 (sub .i64 (add .i64 (mul .i64 32 n0) n1) 1) (
 st Try.prog h58 3 b122 (at_ (off b123 3) (sub .i64 (add .i64 (mul .i64 32 n0) n1) 1) 1) (.int .i64 (add .i64 n122 1)) fun h59 =>
 some ((.bool false), h59))))))))))) (
 some ((.bool false), h56))))) (
 some ((.bool false), h56))) (
 onR e0 (
 some (gv ws1 0, h56)))))))))))))) (
 nil v0 (
 asP v0 fun b124 b125 =>
 ld Try.prog h1 22 b124 (off b125 1) fun v68 =>
 len v68 fun n123 =>
 lp k (f87_l2 rec k v0 n0 n1 n2 v68 n123) [(.bool false), (.int .i64 0)] h1 fun e1 ws3 h111 =>
 onE e1 0 (
 ifB (lt 0 n1) (
 nil v0 (
 asP v0 fun b226 b227 =>
 aix 224 (sub .i64 (add .i64 (mul .i64 32 n0) n1) 1) (
 ld Try.prog h111 3 b226 (at_ (off b227 3) (sub .i64 (add .i64 (mul .i64 32 n0) n1) 1) 1) fun v127 =>
 asI .i64 v127 fun n238 =>
 ifB (lt 0 n238) (
 nil v0 (
 asP v0 fun b228 b229 =>
 aix 224 (sub .i64 (add .i64 (mul .i64 32 n0) n1) 1) (
 ld Try.prog h111 3 b228 (at_ (off b229 3) (sub .i64 (add .i64 (mul .i64 32 n0) n1) 1) 1) fun v128 =>
 asI .i64 v128 fun n239 =>
 nil v0 (
 asP v0 fun b230 b231 =>
 aix 224 (sub .i64 (add .i64 (mul .i64 32 n0) n1) 1) (
 st Try.prog h111 3 b230 (at_ (off b231 3) (sub .i64 (add .i64 (mul .i64 32 n0) n1) 1) 1) (.int .i64 (sub .i64 n239 1)) fun h112 =>
 calls rec h112 87 [v0, (.int .i64 n0), (.int .i64 (sub .i64 n1 1)), (.int .i64 n2)] fun v129 h113 =>
 asB v129 fun q67 =>
 ifB q67 (
 some ((.bool true), h113)) (
 nil v0 (
 asP v0 fun b232 b233 =>
 aix 224 (sub .i64 (add .i64 (mul .i64 32 n0) n1) 1) (
 ld Try.prog h113 3 b232 (at_ (off b233 3) (sub .i64 (add .i64 (mul .i64 32 n0) n1) 1) 1) fun v130 =>
 asI .i64 v130 fun n240 =>
 nil v0 (
 asP v0 fun b234 b235 =>
 aix 224 (sub .i64 (add .i64 (mul .i64 32 n0) n1) 1) (
 st Try.prog h113 3 b234 (at_ (off b235 3) (sub .i64 (add .i64 (mul .i64 32 n0) n1) 1) 1) (.int .i64 (add .i64 n240 1)) fun h114 =>
 some ((.bool false), h114))))))))))) (
 some ((.bool false), h111))))) (
 some ((.bool false), h111))) (
 onR e1 (
 some (gv ws3 0, h111)))))))))))))
theorem e87 (rec : Rec) (k : Nat) (v0 : Value) (n0 : Int) (n1 : Int) (n2 : Int) (h : H) : bodyT Try.prog E0 SC (XC Try.prog rec k) 87 (Value × H) [.opq v0, .int .i64 n0, .int .i64 n1, .int .i64 n2] h (fun v h => some (v, h)) = f87 rec k v0 n0 n1 n2 h := by kernel_rfl
theorem t87 {k : Nat} {v0 : Value} {n0 : Int} {n1 : Int} {n2 : Int} {h h1 : H} {v : Value} (hh : f87 rn k v0 n0 n1 n2 h = some (v, h1)) : rn 87 #[v0, .int .i64 n0, .int .i64 n1, .int .i64 n2] h = some (v, trunc Try.prog h h1 v) :=
  run_of_bodyT (args := [.opq v0, .int .i64 n0, .int .i64 n1, .int .i64 n2]) rfl ((e87 _ _ _ _ _ _ _).trans hh)
theorem p87 {k : Nat} {v0 : Value} {n0 : Int} {n1 : Int} {n2 : Int} {h h1 : H} {v : Value} (hh : f87 rn k v0 n0 n1 n2 h = some (v, h1)) (hp : plainO v = true) (x : Ext h h1) : rn 87 #[v0, .int .i64 n0, .int .i64 n1, .int .i64 n2] h = some (v, h) := by rw [t87 hh, trunc_pure hp x]
end Go.AM
end

section
namespace Go.AM
open Go.Proofs
variable {R : Type}
attribute [local simp] nx_eq nx_new nx_set blk_new blk_set asI_int asK_int asB_bool asP_ptr al_eq bx_eq len_slice onE_exit onE_ret onR_ret Value.cells d3 d29 d31 d56 d24 d59 d22 d25 w3 w25 cell_new rd_new rd_set off eq lt le ifB gv out eqF2 ext20 ext21 k42 k72 k73 k74
theorem asP_pt (b o : Nat) (K : Nat → Nat → Option R) : asP (pt b o) K = K b o := rfl
attribute [local simp] asP_pt
end Go.AM
end

section
namespace Go.AM
open Go.Proofs
/-- The struct's cells. -/
def cellF (n : Int) (sl : Value) (gone : Nat) (W : Nat → Int) (U M : Nat → Bool) (i : Nat) : Value :=
  if i = 0 then iv n else if i = 1 then sl else if i = 2 then iv gone else if i < 227 then iv (W (i - 3)) else if i < 275 then .bool (U (i - 227)) else .bool (M (i - 275))
def rowF (n : Int) (sl : Value) (gone : Nat) (W : Nat → Int) (U M : Nat → Bool) : List Value := (List.range 499).map (cellF n sl gone W U M)
section
variable {n : Int} {sl : Value} {gone : Nat} {W : Nat → Int} {U M : Nat → Bool} {h : H} {fb : Nat} {R : Type}
theorem rowF_get {i : Nat} (hi : i < 499) : (rowF n sl gone W U M)[i]? = some (cellF n sl gone W U M i) := by
  unfold rowF
  rw [List.getElem?_map, List.getElem?_range hi]
  rfl
theorem range_set (g : Nat → Value) (v : Value) (i m : Nat) : ((List.range m).map g).set i v = (List.range m).map (updF g i v) := by
  refine List.ext_getElem? fun j => ?_
  rw [List.getElem?_set, List.getElem?_map, List.getElem?_map]
  by_cases hj : j < m
  · rw [List.getElem?_range hj]
    simp only [Option.map_some, List.length_map, List.length_range]
    unfold updF
    by_cases e : j = i
    · subst e; simp [hj]
    · rw [if_neg (Ne.symm e), if_neg e]
  · have hn : (List.range m)[j]? = none := by rw [List.getElem?_eq_none]; simpa using hj
    rw [hn]
    simp only [Option.map_none, List.length_map, List.length_range]
    split
    · rw [if_neg (by omega)]
    · rfl
theorem rowF_W {j : Nat} (hj : j < 224) (z : Int) : (rowF n sl gone W U M).set (3 + j) (iv z) = rowF n sl gone (updF W j z) U M := by
  unfold rowF
  rw [range_set]
  refine List.map_congr_left fun i _ => ?_
  unfold updF cellF
  by_cases e : i = 3 + j
  · rw [if_pos e, if_neg (by omega), if_neg (by omega), if_neg (by omega), if_pos (by omega)]
    show iv z = iv (if i - 3 = j then z else W (i - 3))
    rw [if_pos (by omega)]
  · rw [if_neg e]
    by_cases h3 : i < 3
    · by_cases h0 : i = 0
      · simp [h0]
      · by_cases h1 : i = 1
        · simp [h1]
        · simp [show i = 2 by omega]
    · by_cases h4 : i < 227
      · simp only [if_pos h4]
        rw [if_neg (show ¬ i - 3 = j by omega)]
      · simp only [if_neg h4]
theorem rowF_U {j : Nat} (hj : j < 48) (z : Bool) : (rowF n sl gone W U M).set (227 + j) (.bool z) = rowF n sl gone W (updF U j z) M := by
  unfold rowF
  rw [range_set]
  refine List.map_congr_left fun i _ => ?_
  unfold updF cellF
  by_cases e : i = 227 + j
  · rw [if_pos e, if_neg (by omega), if_neg (by omega), if_neg (by omega), if_neg (by omega), if_pos (by omega)]
    show Value.bool z = Value.bool (if i - 227 = j then z else U (i - 227))
    rw [if_pos (by omega)]
  · rw [if_neg e]
    by_cases h3 : i < 227
    · by_cases h0 : i = 0
      · simp [h0]
      · by_cases h1 : i = 1
        · simp [h1]
        · by_cases h2 : i = 2
          · simp [h2]
          · simp [h0, h1, h2, h3]
    · by_cases h4 : i < 275
      · simp only [if_pos h4]
        rw [if_neg (show ¬ i - 227 = j by omega)]
      · simp only [if_neg h4]
theorem rowF_M {j : Nat} (hj : j < 224) (z : Bool) : (rowF n sl gone W U M).set (275 + j) (.bool z) = rowF n sl gone W U (updF M j z) := by
  unfold rowF
  rw [range_set]
  refine List.map_congr_left fun i _ => ?_
  unfold updF cellF
  by_cases e : i = 275 + j
  · rw [if_pos e, if_neg (by omega), if_neg (by omega), if_neg (by omega), if_neg (by omega), if_neg (by omega)]
    show Value.bool z = Value.bool (if i - 275 = j then z else M (i - 275))
    rw [if_pos (by omega)]
  · rw [if_neg e]
    by_cases h3 : i < 275
    · by_cases h0 : i = 0
      · simp [h0]
      · by_cases h1 : i = 1
        · simp [h1]
        · by_cases h2 : i = 2
          · simp [h2]
          · by_cases h4 : i < 227
            · simp [h0, h1, h2, h4]
            · simp [h0, h1, h2, h3, h4]
    · simp only [if_neg (show ¬ i = 0 by omega), if_neg (show ¬ i = 1 by omega), if_neg (show ¬ i = 2 by omega), if_neg (show ¬ i < 227 by omega), if_neg h3, if_neg (show ¬ i - 275 = j by omega)]
theorem cellF_W {j : Nat} (hj : j < 224) : cellF n sl gone W U M (3 + j) = iv (W j) := by
  unfold cellF
  simp only [show ¬ 3 + j = 0 by omega, show ¬ 3 + j = 1 by omega, show ¬ 3 + j = 2 by omega, show 3 + j < 227 by omega, if_true, if_false, show 3 + j - 3 = j by omega]
theorem cellF_U {j : Nat} (hj : j < 48) : cellF n sl gone W U M (227 + j) = .bool (U j) := by
  unfold cellF
  simp only [show ¬ 227 + j = 0 by omega, show ¬ 227 + j = 1 by omega, show ¬ 227 + j = 2 by omega, show ¬ 227 + j < 227 by omega, show 227 + j < 275 by omega, if_true, if_false, show 227 + j - 227 = j by omega]
theorem cellF_M {j : Nat} : cellF n sl gone W U M (275 + j) = .bool (M j) := by
  unfold cellF
  simp only [show ¬ 275 + j = 0 by omega, show ¬ 275 + j = 1 by omega, show ¬ 275 + j = 2 by omega, show ¬ 275 + j < 227 by omega, show ¬ 275 + j < 275 by omega, if_false, show 275 + j - 275 = j by omega]
theorem rowF_len : (rowF n sl gone W U M).length = 499 := by simp [rowF]
/-- A flow lies in a block. -/
abbrev FbH (h : H) (fb : Nat) (n : Int) (sl : Value) (gone : Nat) (W : Nat → Int) (U M : Nat → Bool) : Prop := h.blk fb = some (.row (rowF n sl gone W U M) 96 true)
theorem nil_pt (b o : Nat) (x : Option R) : AM.nil (pt b o) x = x := rfl
theorem fW (hb : FbH h fb n sl gone W U M) {e : Int} {j : Nat} (he : e = (j : Int)) (hj : j < 224) (K : Int → Option R) :
    (AM.nil (pt fb 0) (asP (pt fb 0) fun b o => aix 224 e (ld Try.prog h 3 b (at_ (off o 3) e 1) fun v => asI .i64 v K))) = K (W j) := by
  subst he
  have e1 : (0 : Int) ≤ j ∧ (j : Int) < (224 : Nat) := by omega
  have e2 : at_ (off 0 3) (j : Int) 1 = 3 + j := by unfold at_ off; rw [Int.toNat_natCast]; omega
  rw [nil_pt, asP_pt]
  unfold aix
  rw [if_pos e1, d3, cell_of hb, e2, rowF_get (by omega), Option.bind_some, cellF_W hj, asI_int]
theorem fWs (hb : FbH h fb n sl gone W U M) {e : Int} {j : Nat} (he : e = (j : Int)) (hj : j < 224) (z : Int) (K : H → Option R) :
    (AM.nil (pt fb 0) (asP (pt fb 0) fun b o => aix 224 e (st Try.prog h 3 b (at_ (off o 3) e 1) (.int .i64 z) K))) = K (h.set fb (.row (rowF n sl gone (updF W j z) U M) 96 true)) := by
  subst he
  have e1 : (0 : Int) ≤ j ∧ (j : Int) < (224 : Nat) := by omega
  have e2 : at_ (off 0 3) (j : Int) 1 = 3 + j := by unfold at_ off; rw [Int.toNat_natCast]; omega
  rw [nil_pt, asP_pt]
  unfold aix
  rw [if_pos e1, w3, e2, wrc_one hb rfl rfl (by rw [rowF_len]; omega), Option.bind_some, rowF_W hj]
theorem fM (hb : FbH h fb n sl gone W U M) {e : Int} {j : Nat} (he : e = (j : Int)) (hj : j < 224) (K : Bool → Option R) :
    (AM.nil (pt fb 0) (asP (pt fb 0) fun b o => aix 224 e (ld Try.prog h 4 b (at_ (off o 275) e 1) fun v => asB v K))) = K (M j) := by
  subst he
  have e1 : (0 : Int) ≤ j ∧ (j : Int) < (224 : Nat) := by omega
  have e2 : at_ (off 0 275) (j : Int) 1 = 275 + j := by unfold at_ off; rw [Int.toNat_natCast]; omega
  rw [nil_pt, asP_pt]
  unfold aix
  rw [if_pos e1, d4, cell_of hb, e2, rowF_get (by omega), Option.bind_some, cellF_M, asB_bool]
theorem fMs (hb : FbH h fb n sl gone W U M) {e : Int} {j : Nat} (he : e = (j : Int)) (hj : j < 224) (z : Bool) (K : H → Option R) :
    (AM.nil (pt fb 0) (asP (pt fb 0) fun b o => aix 224 e (st Try.prog h 4 b (at_ (off o 275) e 1) (.bool z) K))) = K (h.set fb (.row (rowF n sl gone W U (updF M j z)) 96 true)) := by
  subst he
  have e1 : (0 : Int) ≤ j ∧ (j : Int) < (224 : Nat) := by omega
  have e2 : at_ (off 0 275) (j : Int) 1 = 275 + j := by unfold at_ off; rw [Int.toNat_natCast]; omega
  rw [nil_pt, asP_pt]
  unfold aix
  rw [if_pos e1, w4, e2, wrc_one hb rfl rfl (by rw [rowF_len]; omega), Option.bind_some, rowF_M hj]
theorem fU (hb : FbH h fb n sl gone W U M) {z : Int} {i kk : Nat} (hz : z = (kk : Int)) (hi : i < 24) (hk : kk < 2) (K : Bool → Option R) :
    (AM.nil (pt fb 0) (asP (pt fb 0) fun b o => asK (iv (i : Int)) fun m => aix 24 m (aix 2 z (ld Try.prog h 4 b (at_ (at_ (off o 227) m 2) z 1) fun v => asB v K)))) = K (U (2 * i + kk)) := by
  subst hz
  have e1 : (0 : Int) ≤ i ∧ (i : Int) < (24 : Nat) := by omega
  have e0 : (0 : Int) ≤ kk ∧ (kk : Int) < (2 : Nat) := by omega
  have e2 : at_ (at_ (off 0 227) (i : Int) 2) (kk : Int) 1 = 227 + (2 * i + kk) := by unfold at_ off; rw [Int.toNat_natCast, Int.toNat_natCast]; omega
  rw [nil_pt, asP_pt, asK_int]
  unfold aix
  rw [if_pos e1, if_pos e0, d4, cell_of hb, e2, rowF_get (by omega), Option.bind_some, cellF_U (by omega), asB_bool]
theorem fUs (hb : FbH h fb n sl gone W U M) {z : Int} {i kk : Nat} (hz : z = (kk : Int)) (hi : i < 24) (hk : kk < 2) (q : Bool) (K : H → Option R) :
    (AM.nil (pt fb 0) (asP (pt fb 0) fun b o => asK (iv (i : Int)) fun m => aix 24 m (aix 2 z (st Try.prog h 4 b (at_ (at_ (off o 227) m 2) z 1) (.bool q) K)))) = K (h.set fb (.row (rowF n sl gone W (updF U (2 * i + kk) q) M) 96 true)) := by
  subst hz
  have e1 : (0 : Int) ≤ i ∧ (i : Int) < (24 : Nat) := by omega
  have e0 : (0 : Int) ≤ kk ∧ (kk : Int) < (2 : Nat) := by omega
  have e2 : at_ (at_ (off 0 227) (i : Int) 2) (kk : Int) 1 = 227 + (2 * i + kk) := by unfold at_ off; rw [Int.toNat_natCast, Int.toNat_natCast]; omega
  rw [nil_pt, asP_pt, asK_int]
  unfold aix
  rw [if_pos e1, if_pos e0, w4, e2, wrc_one hb rfl rfl (by rw [rowF_len]; omega), Option.bind_some, rowF_U (by omega)]
theorem fG (hb : FbH h fb n sl gone W U M) (K : Int → Option R) : (AM.nil (pt fb 0) (asP (pt fb 0) fun b o => ld Try.prog h 3 b (off o 2) fun v => asI .i64 v K)) = K gone := by
  have c2 : cellF n sl gone W U M 2 = iv gone := by unfold cellF; simp only [show ¬ (2 : Nat) = 0 by omega, show ¬ (2 : Nat) = 1 by omega, if_true, if_false]
  rw [nil_pt, asP_pt]
  rw [d3, cell_of hb, show off 0 2 = 2 from rfl, rowF_get (by omega), Option.bind_some, c2, asI_int]
theorem fL (hb : FbH h fb n sl gone W U M) (K : Value → Option R) : (AM.nil (pt fb 0) (asP (pt fb 0) fun b o => ld Try.prog h 22 b (off o 1) K)) = K sl := by
  have c1 : cellF n sl gone W U M 1 = sl := by unfold cellF; simp only [show ¬ (1 : Nat) = 0 by omega, if_true, if_false]
  rw [nil_pt, asP_pt]
  rw [d22, cell_of hb, show off 0 1 = 1 from rfl, rowF_get (by omega), Option.bind_some, c1]
end
/-- What is met in the end, and all that can be reached from what is new. -/
structure ExplR (l : List Kl) (gone : Nat) (W : Nat → Int) (U : Nat → Bool) (t : Nat) (M M' : Nat → Bool) : Prop where
  up : ∀ j, M j = true → M' j = true
  cl : ∀ q y, q < 7 → y ≤ 31 → M' (32 * q + y) = true → M (32 * q + y) = false → q ≠ t ∧ ∀ u, ResR l gone W U (q, y) u → M' (32 * u.1 + u.2) = true
section
variable {l : List Kl} {gone t : Nat} {W : Nat → Int} {U : Nat → Bool} {M M1 M2 : Nat → Bool}
theorem ExplR.refl : ExplR l gone W U t M M := ⟨fun _ h => h, fun q y _ _ h h' => by rw [h] at h'; cases h'⟩
theorem ExplR.trans (a : ExplR l gone W U t M M1) (b : ExplR l gone W U t M1 M2) : ExplR l gone W U t M M2 := by
  refine ⟨fun j h => b.up j (a.up j h), fun q y hq hy h h' => ?_⟩
  cases h1 : M1 (32 * q + y) with
  | true =>
    obtain ⟨c1, c2⟩ := a.cl q y hq hy h1 h'
    exact ⟨c1, fun u hu => b.up _ (c2 u hu)⟩
  | false => exact b.cl q y hq hy h h1
theorem ExplR.turn {W1 : Nat → Int} {U1 : Nat → Bool} {p x : Nat} (a : ExplR l gone W1 U1 t M M1) (hm : M (32 * p + x) = true) (h : ∀ q y u, q < 7 → y ≤ 31 → (q, y) ≠ (p, x) → ResR l gone W U (q, y) u → ResR l gone W1 U1 (q, y) u) : ExplR l gone W U t M M1 := by
  refine ⟨a.up, fun q y hq hy h1 h2 => ?_⟩
  obtain ⟨c1, c2⟩ := a.cl q y hq hy h1 h2
  refine ⟨c1, fun u hu => c2 u (h q y u hq hy (fun e => ?_) hu)⟩
  simp only [Prod.mk.injEq] at e
  rw [e.1, e.2, hm] at h2
  cases h2
theorem res_wait {p x q y : Nat} {u : Nat × Nat} (h : ResR l gone W U (q, y) u) : ResR l gone (updF W (32 * p + x) (W (32 * p + x) + 1)) U (q, y) u := by
  rcases h with h | ⟨y', h1, h2, h3⟩ | h
  · exact .inl h
  · refine .inr (.inl ⟨y', h1, h2, ?_⟩)
    unfold updF
    split
    · rename_i e; rw [e] at h3; omega
    · exact h3
  · exact .inr (.inr h)
theorem res_unwait {p x q y : Nat} {u : Nat × Nat} (hy : y ≤ 31) (hx : x < 31) (hne : (q, y) ≠ (p, x + 1)) (h : ResR l gone W U (q, y) u) : ResR l gone (updF W (32 * p + x) (W (32 * p + x) - 1)) U (q, y) u := by
  rcases h with h | ⟨y', h1, h2, h3⟩ | h
  · exact .inl h
  · refine .inr (.inl ⟨y', h1, h2, ?_⟩)
    unfold updF
    simp only at h1 h3 ⊢
    rw [if_neg]
    · exact h3
    · intro e
      exact hne (by rw [show q = p by omega, show y = x + 1 by omega])
  · exact .inr (.inr h)
theorem res_made {i kk : Nat} {c : Kl} (hc : l[i]? = some c) (hk : kk < 2) {q y : Nat} {u : Nat × Nat} (hne : (q, y) ≠ (fromU c kk, c.t.toNat)) (h : ResR l gone W U (q, y) u) : ResR l gone W (updF U (2 * i + kk) true) (q, y) u := by
  rcases h with h | h | ⟨i', c', kk', h1, h2, h3, h4⟩
  · exact .inl h
  · exact .inr (.inl h)
  · refine .inr (.inr ⟨i', c', kk', h1, h2, h3, ?_⟩)
    by_cases e : 2 * i' + kk' = 2 * i + kk
    · have e1 : i' = i := by omega
      have e2 : kk' = kk := by omega
      subst e1; subst e2
      rw [hc] at h1; cases h1
      rcases h4 with ⟨a, b, d⟩ | ⟨a, b, d⟩
      · exact absurd a hne
      · exact .inr ⟨a, by rw [updF_at], d⟩
    · rw [updF_ne _ _ e]; exact h4
theorem res_unmade {i kk : Nat} {c : Kl} (hc : l[i]? = some c) (hk : kk < 2) {q y : Nat} {u : Nat × Nat} (hne : (q, y) ≠ (toU c kk, c.t.toNat + 1)) (h : ResR l gone W U (q, y) u) : ResR l gone W (updF U (2 * i + kk) false) (q, y) u := by
  rcases h with h | h | ⟨i', c', kk', h1, h2, h3, h4⟩
  · exact .inl h
  · exact .inr (.inl h)
  · refine .inr (.inr ⟨i', c', kk', h1, h2, h3, ?_⟩)
    by_cases e : 2 * i' + kk' = 2 * i + kk
    · have e1 : i' = i := by omega
      have e2 : kk' = kk := by omega
      subst e1; subst e2
      rw [hc] at h1; cases h1
      rcases h4 with ⟨a, b, d⟩ | ⟨a, b, d⟩
      · exact .inl ⟨a, by rw [updF_at], d⟩
      · exact absurd a hne
    · rw [updF_ne _ _ e]; exact h4
/-- How many have not been met. -/
def unmet (M : Nat → Bool) : Nat := (List.range 224).countP fun j => !M j
theorem unmet_le (h : ∀ j, M j = true → M1 j = true) : unmet M1 ≤ unmet M := by
  refine List.countP_mono_left fun j _ hj => ?_
  simp only [Bool.not_eq_true'] at hj ⊢
  cases hM : M j with
  | false => rfl
  | true => rw [h j hM] at hj; cases hj
theorem unmet_set {j : Nat} (hj : j < 224) (h : M j = false) : unmet (updF M j true) + 1 = unmet M := by
  have key : ∀ m, (List.range m).countP (fun i => !updF M j true i) + (if j < m then 1 else 0) = (List.range m).countP fun i => !M i := by
    intro m
    induction m with
    | zero => simp
    | succ m ih =>
      rw [List.range_succ, List.countP_append, List.countP_append, List.countP_cons, List.countP_cons, List.countP_nil, List.countP_nil]
      have e3 : (if j < m + 1 then 1 else 0 : Nat) = (if j < m then 1 else 0) + if j = m then 1 else 0 := by
        by_cases h1 : j < m
        · rw [if_pos h1, if_pos (by omega), if_neg (by omega)]
        · by_cases h2 : j = m
          · rw [if_neg h1, if_pos h2, if_pos (by omega)]
          · rw [if_neg h1, if_neg h2, if_neg (by omega)]
      rw [e3]
      by_cases e : j = m
      · subst e
        simp only [updF_at, h, Bool.not_true, Bool.not_false, if_true, Bool.false_eq_true, if_false] at ih ⊢
        rw [if_neg (Nat.lt_irrefl j)] at ih ⊢
        omega
      · rw [updF_ne _ _ (Ne.symm e)]
        rw [if_neg e]
        omega
  have := key 224
  rw [if_pos hj] at this
  exact this
end
end Go.AM
end

section
namespace Go.AM
open Go.Proofs
/-- The second half of what is done with a call: it may be undone. -/
noncomputable def sec2 (rec : Rec) (v0 : Value) (n1 n2 q kk : Int) (wi w0 : Value) (cb : Nat) (h7 : H) : Option (Ex × List Value × H) :=
  ld Try.prog h7 3 cb (off 0 2) fun v16 =>
  asI .i64 v16 fun n21 =>
  ifB (eq n21 (sub .i64 n1 1)) (
    AM.nil v0 (
      asP v0 fun b24 b25 =>
      asK wi fun n22 =>
      aix 24 n22 (
        aix 2 (sub .i64 1 kk) (
          ld Try.prog h7 4 b24 (at_ (at_ (off b25 227) n22 2) (sub .i64 1 kk) 1) fun v17 =>
          asB v17 fun q4 =>
          ifB q4 (
            AM.nil v0 (
              asP v0 fun b26 b27 =>
              asK wi fun n23 =>
              aix 24 n23 (
                aix 2 (sub .i64 1 kk) (
                  st Try.prog h7 4 b26 (at_ (at_ (off b27 227) n23 2) (sub .i64 1 kk) 1) (.bool false) fun h11 =>
                  calls rec h11 87 [v0, (.int .i64 q), (.int .i64 (sub .i64 n1 1)), (.int .i64 n2)] fun v18 h12 =>
                  asB v18 fun q5 =>
                  ifB q5 (
                    out .ret [(.bool true), wi] h12) (
                    AM.nil v0 (
                      asP v0 fun b28 b29 =>
                      asK wi fun n24 =>
                      aix 24 n24 (
                        aix 2 (sub .i64 1 kk) (
                          st Try.prog h12 4 b28 (at_ (at_ (off b29 227) n24 2) (sub .i64 1 kk) 1) (.bool true) fun h13 =>
                          asI .i64 wi fun n25 =>
                          out .normal [w0, (.int .i64 (add .i64 n25 1))] h13)))))))) (
            asI .i64 wi fun n26 =>
            out .normal [w0, (.int .i64 (add .i64 n26 1))] h7))))) (
    asI .i64 wi fun n27 =>
    out .normal [w0, (.int .i64 (add .i64 n27 1))] h7)
/-- What is done with a call. -/
noncomputable def sec1 (rec : Rec) (v0 : Value) (n1 n2 q kk : Int) (wi w0 : Value) (cb : Nat) (h7 : H) : Option (Ex × List Value × H) :=
  ld Try.prog h7 3 cb (off 0 2) fun v13 =>
  asI .i64 v13 fun n17 =>
  ifB (eq n17 n1) (
    AM.nil v0 (
      asP v0 fun b18 b19 =>
      asK wi fun n18 =>
      aix 24 n18 (
        aix 2 kk (
          ld Try.prog h7 4 b18 (at_ (at_ (off b19 227) n18 2) kk 1) fun v14 =>
          asB v14 fun q2 =>
          ifB (not q2) (
            AM.nil v0 (
              asP v0 fun b20 b21 =>
              asK wi fun n19 =>
              aix 24 n19 (
                aix 2 kk (
                  st Try.prog h7 4 b20 (at_ (at_ (off b21 227) n19 2) kk 1) (.bool true) fun h8 =>
                  calls rec h8 87 [v0, (.int .i64 q), (.int .i64 (add .i64 n1 1)), (.int .i64 n2)] fun v15 h9 =>
                  asB v15 fun q3 =>
                  ifB q3 (
                    out .ret [(.bool true), wi] h9) (
                    AM.nil v0 (
                      asP v0 fun b22 b23 =>
                      asK wi fun n20 =>
                      aix 24 n20 (
                        aix 2 kk (
                          st Try.prog h9 4 b22 (at_ (at_ (off b23 227) n20 2) kk 1) (.bool false) fun h10 =>
                          sec2 rec v0 n1 n2 q kk wi w0 cb h10)))))))) (
            sec2 rec v0 n1 n2 q kk wi w0 cb h7))))) (
    sec2 rec v0 n1 n2 q kk wi w0 cb h7)
/-- The search from somebody at a time, where at most so many are yet to be met. -/
def FindP (n : Nat) (l : List Kl) (sl : Value) (gone s t m : Nat) : Prop :=
  ∀ (h : H) (fb p x k : Nat) (W : Nat → Int) (U M : Nat → Bool), unmet M ≤ m → fb < h.nx → FbH h fb n sl gone W U M → SlR h 59 3 sl (l.map Kl.cells) → (∀ b, blkOf sl = some b → b ≠ fb) → p < n → x ≤ 31 → RflOk l gone s t W U k (p, x) → k ≤ 100 →
    ∃ (r : Bool) (h' : H), rn 87 #[pt fb 0, iv p, iv x, iv t] h = some (.bool r, h') ∧ h.nx ≤ h'.nx ∧ (∀ b, b < h.nx → b ≠ fb → h'.blk b = h.blk b) ∧
      ∃ W' U' M', FbH h' fb n sl gone W' U' M' ∧ (r = true → RflOk l gone s t W' U' (k + 1) (s, 0)) ∧ (r = false → W' = W ∧ U' = U ∧ ExplR l gone W U t M M' ∧ M' (32 * p + x) = true ∧ p ≠ t)
/-- What has come of one step: on, with more met, or a way has been found. -/
def StepP (n : Nat) (l : List Kl) (sl : Value) (gone s t k fb i : Nat) (W : Nat → Int) (U M : Nat → Bool) (g : H) (D : (Nat → Bool) → Prop) (o : Option (Ex × List Value × H)) : Prop :=
  ∃ (g' : H), g.nx ≤ g'.nx ∧ (∀ b, b < g.nx → b ≠ fb → g'.blk b = g.blk b) ∧
    ((o = some (.normal, [.bool false, iv (i + 1 : Nat)], g') ∧ ∃ M', FbH g' fb n sl gone W U M' ∧ ExplR l gone W U t M M' ∧ D M') ∨
     (∃ w, o = some (.ret, [.bool true, w], g') ∧ ∃ W' U' M', FbH g' fb n sl gone W' U' M' ∧ RflOk l gone s t W' U' (k + 1) (s, 0)))
section
variable {n : Nat} {l : List Kl} {sl : Value} {gone s t m k fb i : Nat} {W : Nat → Int} {U M : Nat → Bool} {g : H}
theorem sec2_ok (IH : FindP n l sl gone s t m) (hfb : fb < g.nx) (hF : FbH g fb n sl gone W U M) (hsl : SlR g 59 3 sl (l.map Kl.cells)) (hslb : ∀ b, blkOf sl = some b → b ≠ fb) (hum : unmet M ≤ m) {p x : Nat} (hp : p < n) (hx : x ≤ 31) (f : RflOk l gone s t W U k (p, x)) (hk : k ≤ 100)
    {c : Kl} (hc : l[i]? = some c) (hi : i < 24) (hok : okC n c = true) {cb : Nat} (hcb : g.blk cb = some (.row c.cells 59 true)) {kk : Nat} (hkk : kk < 2) (hg : gone.testBit i = false) (hpk : p = fromU c kk) (hm : M (32 * p + x) = true) :
    StepP n l sl gone s t k fb i W U M g (fun M' => (p, x) = (fromU c kk, c.t.toNat + 1) → U (2 * i + (1 - kk)) = true → M' (32 * toU c kk + c.t.toNat) = true) (sec2 rn (pt fb 0) x t (toU c kk) kk (iv i) (.bool false) cb g) := by
  obtain ⟨o1, o2, o3, o4, o5⟩ := okC_iff.1 hok
  have hadd : add .i64 (i : Int) 1 = ((i + 1 : Nat) : Int) := by rw [add64 (by omega) (by omega)]; omega
  have h1k : sub .i64 1 (kk : Int) = ((1 - kk : Nat) : Int) := by
    rcases (show kk = 0 ∨ kk = 1 by omega) with rfl | rfl <;> decide
  have ft : fromU c (1 - kk) = toU c kk := by
    rcases (show kk = 0 ∨ kk = 1 by omega) with rfl | rfl <;> rfl
  have tf : toU c (1 - kk) = fromU c kk := by
    rcases (show kk = 0 ∨ kk = 1 by omega) with rfl | rfl <;> rfl
  have hqn : toU c kk < n := by unfold toU; split <;> omega
  have hct : ∀ (K : Value → Option (Ex × List Value × H)), ld Try.prog g 3 cb (off 0 2) K = K (iv c.t) := fun K => by rw [d3, cell_of hcb]; rfl
  have hxs : sub .i64 (x : Int) 1 = (x : Int) - 1 := sub64 (by omega) (by omega)
  unfold sec2
  rw [hct, asI_int, hxs]
  by_cases hT : c.t = (x : Int) - 1
  · have hxT : x = c.t.toNat + 1 := by omega
    rw [eq_t hT, ifB_true, fU hF h1k hi (by omega)]
    cases hu : U (2 * i + (1 - kk)) with
    | false =>
      rw [ifB_false, asI_int, hadd]
      exact ⟨g, Nat.le_refl _, fun _ _ _ => rfl, .inl ⟨rfl, M, hF, .refl, fun _ h => by cases h⟩⟩
    | true =>
      rw [ifB_true, fUs hF h1k hi (by omega)]
      -- the call is undone
      have hF1 : FbH (g.set fb (.row (rowF n sl gone W (updF U (2 * i + (1 - kk)) false) M) 96 true)) fb n sl gone W (updF U (2 * i + (1 - kk)) false) M := blk_set_self _ _ _
      have n1 : (g.set fb (.row (rowF n sl gone W (updF U (2 * i + (1 - kk)) false) M) 96 true)).nx = g.nx := rfl
      have e1 : ∀ b, b ≠ fb → (g.set fb (.row (rowF n sl gone W (updF U (2 * i + (1 - kk)) false) M) 96 true)).blk b = g.blk b := fun b hb => blk_set_ne _ _ _ hb
      generalize g.set fb (.row (rowF n sl gone W (updF U (2 * i + (1 - kk)) false) M) 96 true) = g1 at *
      have f0 : RflOk l gone s t W U k (toU c (1 - kk), c.t.toNat + 1) := by rw [tf, ← hpk, ← hxT]; exact f
      have f1 := f0.unmade hc (by omega) hi hu
      rw [ft] at f1
      obtain ⟨r, g2, c87, n2, e2, W', U', M', hF2, hr1, hr2⟩ := IH g1 fb (toU c kk) c.t.toNat k W _ M hum (by omega) hF1 (slR_keep hsl (by omega) fun b hb => e1 b (hslb b hb)) hslb hqn (by omega) f1 hk
      have ec : ((c.t.toNat : Nat) : Int) = (x : Int) - 1 := by omega
      rw [ec] at c87
      rw [calls_eq (xs := [_, _, _, _]) c87, asB_bool]
      cases r with
      | true =>
        rw [ifB_true]
        exact ⟨g2, by omega, fun b hb hne => by rw [e2 b (by omega) hne, e1 b hne], .inr ⟨_, rfl, W', U', M', hF2, hr1 rfl⟩⟩
      | false =>
        obtain ⟨rfl, rfl, ex, hmet, hqt⟩ := hr2 rfl
        rw [ifB_false, fUs hF2 h1k hi (by omega), show updF (updF U (2 * i + (1 - kk)) false) (2 * i + (1 - kk)) true = U by rw [← hu]; exact updF_back _ _ _, asI_int, hadd]
        refine ⟨_, by rw [nx_set]; omega, fun b hb hne => by rw [blk_set_ne _ _ _ hne, e2 b (by omega) hne, e1 b hne], .inl ⟨rfl, M', blk_set_self _ _ _, ?_, fun _ _ => hmet⟩⟩
        exact ex.turn hm fun q y u hq hy hne hres => res_unmade hc (by omega) (by rw [tf, ← hpk, ← hxT]; exact hne) hres
  · rw [eq_f hT, ifB_false, asI_int, hadd]
    refine ⟨g, Nat.le_refl _, fun _ _ _ => rfl, .inl ⟨rfl, M, hF, .refl, fun h _ => ?_⟩⟩
    simp only [Prod.mk.injEq] at h
    exact absurd (show c.t = (x : Int) - 1 by omega) hT
theorem sec1_ok (IH : FindP n l sl gone s t m) (hfb : fb < g.nx) (hF : FbH g fb n sl gone W U M) (hsl : SlR g 59 3 sl (l.map Kl.cells)) (hslb : ∀ b, blkOf sl = some b → b ≠ fb) (hum : unmet M ≤ m) {p x : Nat} (hp : p < n) (hx : x ≤ 31) (f : RflOk l gone s t W U k (p, x)) (hk : k ≤ 100)
    {c : Kl} (hc : l[i]? = some c) (hi : i < 24) (hok : okC n c = true) {cb : Nat} (hcb : g.blk cb = some (.row c.cells 59 true)) (hcbl : cb < g.nx) (hcbf : cb ≠ fb) {kk : Nat} (hkk : kk < 2) (hg : gone.testBit i = false) (hpk : p = fromU c kk) (hm : M (32 * p + x) = true) :
    StepP n l sl gone s t k fb i W U M g (fun M' => ((p, x) = (fromU c kk, c.t.toNat) → U (2 * i + kk) = false → M' (32 * toU c kk + (c.t.toNat + 1)) = true) ∧ ((p, x) = (fromU c kk, c.t.toNat + 1) → U (2 * i + (1 - kk)) = true → M' (32 * toU c kk + c.t.toNat) = true)) (sec1 rn (pt fb 0) x t (toU c kk) kk (iv i) (.bool false) cb g) := by
  obtain ⟨o1, o2, o3, o4, o5⟩ := okC_iff.1 hok
  have hqn : toU c kk < n := by unfold toU; split <;> omega
  have hct : ∀ (K : Value → Option (Ex × List Value × H)), ld Try.prog g 3 cb (off 0 2) K = K (iv c.t) := fun K => by rw [d3, cell_of hcb]; rfl
  have direct : (¬ ((p, x) = (fromU c kk, c.t.toNat) ∧ U (2 * i + kk) = false)) → StepP n l sl gone s t k fb i W U M g (fun M' => ((p, x) = (fromU c kk, c.t.toNat) → U (2 * i + kk) = false → M' (32 * toU c kk + (c.t.toNat + 1)) = true) ∧ ((p, x) = (fromU c kk, c.t.toNat + 1) → U (2 * i + (1 - kk)) = true → M' (32 * toU c kk + c.t.toNat) = true)) (sec2 rn (pt fb 0) x t (toU c kk) kk (iv i) (.bool false) cb g) := by
    intro hno
    obtain ⟨g', q1, q2, q3⟩ := sec2_ok IH hfb hF hsl hslb hum hp hx f hk hc hi hok hcb hkk hg hpk hm
    refine ⟨g', q1, q2, q3.imp (fun h => ⟨h.1, ?_⟩) id⟩
    obtain ⟨M', a, b, d⟩ := h.2
    exact ⟨M', a, b, fun h1 h2 => absurd ⟨h1, h2⟩ hno, d⟩
  unfold sec1
  rw [hct, asI_int]
  by_cases hT : c.t = (x : Int)
  · have hxT : x = c.t.toNat := by omega
    rw [eq_t hT, ifB_true, fU hF rfl hi hkk]
    cases hu : U (2 * i + kk) with
    | true =>
      rw [Bool.not_true, ifB_false]
      obtain ⟨g', q1, q2, q3⟩ := direct fun h => by rw [hu] at h; cases h.2
      refine ⟨g', q1, q2, q3.imp (fun h => ⟨h.1, ?_⟩) id⟩
      obtain ⟨M', a, b, d⟩ := h.2
      exact ⟨M', a, b, fun _ h => (by cases h), d.2⟩
    | false =>
      rw [Bool.not_false, ifB_true, fUs hF rfl hi hkk]
      have hF1 : FbH (g.set fb (.row (rowF n sl gone W (updF U (2 * i + kk) true) M) 96 true)) fb n sl gone W (updF U (2 * i + kk) true) M := blk_set_self _ _ _
      have n1 : (g.set fb (.row (rowF n sl gone W (updF U (2 * i + kk) true) M) 96 true)).nx = g.nx := rfl
      have e1 : ∀ b, b ≠ fb → (g.set fb (.row (rowF n sl gone W (updF U (2 * i + kk) true) M) 96 true)).blk b = g.blk b := fun b hb => blk_set_ne _ _ _ hb
      generalize g.set fb (.row (rowF n sl gone W (updF U (2 * i + kk) true) M) 96 true) = g1 at *
      have f0 : RflOk l gone s t W U k (fromU c kk, c.t.toNat) := by rw [← hpk, ← hxT]; exact f
      have f1 := f0.made hc hkk hi hg hu
      obtain ⟨r, g2, c87, n2, e2, W', U', M', hF2, hr1, hr2⟩ := IH g1 fb (toU c kk) (c.t.toNat + 1) k W _ M hum (by omega) hF1 (slR_keep hsl (by omega) fun b hb => e1 b (hslb b hb)) hslb hqn (by omega) f1 hk
      have ec : ((c.t.toNat + 1 : Nat) : Int) = (x : Int) + 1 := by omega
      rw [ec] at c87
      rw [add64 (show -9223372036854775808 ≤ (x : Int) + 1 by omega) (by omega), calls_eq (xs := [_, _, _, _]) c87, asB_bool]
      cases r with
      | true =>
        rw [ifB_true]
        exact ⟨g2, by omega, fun b hb hne => by rw [e2 b (by omega) hne, e1 b hne], .inr ⟨_, rfl, W', U', M', hF2, hr1 rfl⟩⟩
      | false =>
        obtain ⟨rfl, rfl, ex, hmet, hqt⟩ := hr2 rfl
        rw [ifB_false, fUs hF2 rfl hi hkk, show updF (updF U (2 * i + kk) true) (2 * i + kk) false = U by rw [← hu]; exact updF_back _ _ _]
        have hF3 : FbH (g2.set fb (.row (rowF n sl gone W' U M') 96 true)) fb n sl gone W' U M' := blk_set_self _ _ _
        have n3 : (g2.set fb (.row (rowF n sl gone W' U M') 96 true)).nx = g2.nx := rfl
        have e3 : ∀ b, b ≠ fb → (g2.set fb (.row (rowF n sl gone W' U M') 96 true)).blk b = g2.blk b := fun b hb => blk_set_ne _ _ _ hb
        generalize g2.set fb (.row (rowF n sl gone W' U M') 96 true) = g3 at *
        have all3 : ∀ b, b < g.nx → b ≠ fb → g3.blk b = g.blk b := fun b hb hne => by rw [e3 b hne, e2 b (by omega) hne, e1 b hne]
        have ex' : ExplR l gone W' U t M M' := ex.turn hm fun q y u hq hy hne hres => res_made hc hkk (by rw [← hpk, ← hxT]; exact hne) hres
        obtain ⟨g', q1, q2, q3⟩ := sec2_ok (g := g3) IH (by omega) hF3 (slR_keep hsl (by omega) fun b hb => all3 b (slR_bel hsl hb) (hslb b hb)) hslb (Nat.le_trans (unmet_le ex.up) hum) hp hx f hk hc hi hok (cb := cb) (by rw [all3 cb hcbl hcbf]; exact hcb) hkk hg hpk (ex.up _ hm)
        refine ⟨g', by omega, fun b hb hne => by rw [q2 b (by omega) hne, all3 b hb hne], q3.imp (fun h => ⟨h.1, ?_⟩) id⟩
        obtain ⟨M2, a, b, d⟩ := h.2
        exact ⟨M2, a, ex'.trans b, fun _ _ => b.up _ hmet, d⟩
  · rw [eq_f hT, ifB_false]
    refine direct fun h => ?_
    simp only [Prod.mk.injEq] at h
    exact absurd (show c.t = (x : Int) by omega) hT
end
end Go.AM
end

section
namespace Go.AM
open Go.Proofs
theorem l87_same : f87_l2 = f87_l1 := by kernel_rfl
/-- What has been met beyond the calls ahead of one. -/
def CallsMet (l : List Kl) (gone : Nat) (U : Nat → Bool) (p x i : Nat) (M : Nat → Bool) : Prop :=
  ∀ (j : Nat) (c : Kl) (kk : Nat), j < i → l[j]? = some c → kk < 2 → gone.testBit j = false →
    ((p, x) = (fromU c kk, c.t.toNat) → U (2 * j + kk) = false → M (32 * toU c kk + (c.t.toNat + 1)) = true) ∧ ((p, x) = (toU c kk, c.t.toNat + 1) → U (2 * j + kk) = true → M (32 * fromU c kk + c.t.toNat) = true)
section
variable {n : Nat} {l : List Kl} {sl : Value} {gone s t m k fb : Nat} {W : Nat → Int} {U M : Nat → Bool} {h4 : H}
theorem l871 (IH : FindP n l sl gone s t m) (v : VP n l) (hgone : gone < 2 ^ 62) (hfb : fb < h4.nx) (hF : FbH h4 fb n sl gone W U M) (hsl : SlR h4 59 3 sl (l.map Kl.cells)) (hslb : ∀ b, blkOf sl = some b → b ≠ fb) (hum : unmet M ≤ m) {p x : Nat} (hp : p < n) (hx : x ≤ 31) (f : RflOk l gone s t W U k (p, x)) (hk : k ≤ 100) (hm : M (32 * p + x) = true) :
    ∃ e ws g, lpGo (f87_l1 rn 1000 (pt fb 0) p x t sl l.length) 1000 [.bool false, iv 0] h4 = some (e, ws, g) ∧ h4.nx ≤ g.nx ∧ (∀ b, b < h4.nx → b ≠ fb → g.blk b = h4.blk b) ∧
      ((e = .exit 0 ∧ ∃ M2, FbH g fb n sl gone W U M2 ∧ ExplR l gone W U t M M2 ∧ CallsMet l gone U p x l.length M2) ∨ (e = .ret ∧ gv ws 0 = .bool true ∧ ∃ W' U' M', FbH g fb n sl gone W' U' M' ∧ RflOk l gone s t W' U' (k + 1) (s, 0))) := by
  have l24 := v.len
  obtain ⟨e, ws, g, q1, q2⟩ := lp_range (F := f87_l1 rn 1000 (pt fb 0) p x t sl l.length) (k := 1000) (n := l.length)
    (fun i ws g => ws = [.bool false, iv i] ∧ h4.nx ≤ g.nx ∧ (∀ b, b < h4.nx → b ≠ fb → g.blk b = h4.blk b) ∧ ∃ M2, FbH g fb n sl gone W U M2 ∧ ExplR l gone W U t M M2 ∧ CallsMet l gone U p x i M2)
    (fun e ws g => h4.nx ≤ g.nx ∧ (∀ b, b < h4.nx → b ≠ fb → g.blk b = h4.blk b) ∧
      ((e = .exit 0 ∧ ∃ M2, FbH g fb n sl gone W U M2 ∧ ExplR l gone W U t M M2 ∧ CallsMet l gone U p x l.length M2) ∨ (e = .ret ∧ gv ws 0 = .bool true ∧ ∃ W' U' M', FbH g fb n sl gone W' U' M' ∧ RflOk l gone s t W' U' (k + 1) (s, 0))))
    (fun i ws g hi hI => by
      obtain ⟨rfl, hn, hf, M2, hF2, ex, cm⟩ := hI
      obtain ⟨c, hc⟩ : ∃ c, l[i]? = some c := ⟨_, List.getElem?_eq_getElem hi⟩
      have hok := v.ok c (List.mem_of_getElem? hc)
      obtain ⟨o1, o2, o3, o4, o5⟩ := okC_iff.1 hok
      have slg : SlR g 59 3 sl (l.map Kl.cells) := slR_keep hsl hn fun b hb => hf b (slR_bel hsl hb) (hslb b hb)
      have y7 := (Ext.refl g).fresh 59 [iv 0, iv 0, iv 0] c.cells
      have hcb := blk_fresh g 59 [iv 0, iv 0, iv 0] c.cells
      have n7 : (g.fresh 59 [iv 0, iv 0, iv 0] c.cells).nx = g.nx + 1 := rfl
      have hadd : add .i64 (i : Int) 1 = ((i + 1 : Nat) : Int) := by rw [add64 (by omega) (by omega)]; omega
      have start : ∀ {R : Type} (K : Value → H → Option R), True := fun _ => trivial
      -- what is asked of the rest
      have fin : ∀ (o : Option (Ex × List Value × H)) (D : (Nat → Bool) → Prop), StepP n l sl gone s t k fb i W U M2 (g.fresh 59 [iv 0, iv 0, iv 0] c.cells) D o → (∀ M3, (∀ j, M2 j = true → M3 j = true) → D M3 → CallsMet l gone U p x (i + 1) M3) →
          ∃ e ws' h', o = some (e, ws', h') ∧ ((e = .normal ∧ ws' = [.bool false, iv ((i + 1 : Nat) : Int)] ∧ h4.nx ≤ h'.nx ∧ (∀ b, b < h4.nx → b ≠ fb → h'.blk b = h4.blk b) ∧ ∃ M2, FbH h' fb n sl gone W U M2 ∧ ExplR l gone W U t M M2 ∧ CallsMet l gone U p x (i + 1) M2) ∨
            (e ≠ .normal ∧ h4.nx ≤ h'.nx ∧ (∀ b, b < h4.nx → b ≠ fb → h'.blk b = h4.blk b) ∧ ((e = .exit 0 ∧ ∃ M2, FbH h' fb n sl gone W U M2 ∧ ExplR l gone W U t M M2 ∧ CallsMet l gone U p x l.length M2) ∨ (e = .ret ∧ gv ws' 0 = .bool true ∧ ∃ W' U' M', FbH h' fb n sl gone W' U' M' ∧ RflOk l gone s t W' U' (k + 1) (s, 0))))) := by
        rintro o D ⟨g', a1, a2, a3⟩ hD
        rw [n7] at a1 a2
        have fr : ∀ b, b < h4.nx → b ≠ fb → g'.blk b = h4.blk b := fun b hb hne => by rw [a2 b (by omega) hne, y7.blk b (by omega), hf b hb hne]
        rcases a3 with ⟨rfl, M3, b1, b2, b3⟩ | ⟨w, rfl, W', U', M', b1, b2⟩
        · exact ⟨_, _, g', rfl, .inl ⟨rfl, rfl, by omega, fr, M3, b1, ex.trans b2, hD M3 b2.up b3⟩⟩
        · exact ⟨_, _, g', rfl, .inr ⟨by simp, by omega, fr, .inr ⟨rfl, rfl, W', U', M', b1, b2⟩⟩⟩
      have old : ∀ M3, (∀ j, M2 j = true → M3 j = true) → (∀ kk, kk < 2 → gone.testBit i = false →
          ((p, x) = (fromU c kk, c.t.toNat) → U (2 * i + kk) = false → M3 (32 * toU c kk + (c.t.toNat + 1)) = true) ∧ ((p, x) = (toU c kk, c.t.toNat + 1) → U (2 * i + kk) = true → M3 (32 * fromU c kk + c.t.toNat) = true)) → CallsMet l gone U p x (i + 1) M3 := by
        intro M3 hup hnew j d kk hj hd hkk hgj
        by_cases e : j = i
        · subst e
          rw [hc] at hd; cases hd
          exact hnew kk hkk hgj
        · obtain ⟨a, b⟩ := cm j d kk (by omega) hd hkk hgj
          exact ⟨fun h1 h2 => hup _ (a h1 h2), fun h1 h2 => hup _ (b h1 h2)⟩
      unfold f87_l1
      simp only [gv, List.getD_cons_zero, List.getD_cons_succ, asI_int, asK_int]
      rw [lt_t (by omega), ifB_true, slg.ldA ag59 sz59 (by omega) (x := c.cells) (by simp [hc])]
      rw [al_st (zs := [iv 0, iv 0, iv 0]) (xs := c.cells) sz59 rfl rfl]
      have hFg : fb < g.nx := by omega
      have hF7 : FbH (g.fresh 59 [iv 0, iv 0, iv 0] c.cells) fb n sl gone W U M2 := (y7.blk fb hFg).trans hF2
      have sl7 := slg.ext y7
      have hum2 : unmet M2 ≤ m := Nat.le_trans (unmet_le ex.up) hum
      simp only [nx_eq] at *
      generalize g.fresh 59 [iv 0, iv 0, iv 0] c.cells = h7 at *
      have hcbl : g.nx < h7.nx := by omega
      have hcbf : g.nx ≠ fb := by omega
      have lA : ∀ (K : Value → Option (Ex × List Value × H)), ld Try.prog h7 3 g.nx 0 K = K (iv c.a) := fun K => by rw [d3, cell_of hcb]; rfl
      have lB : ∀ (K : Value → Option (Ex × List Value × H)), ld Try.prog h7 3 g.nx (off 0 1) K = K (iv c.b) := fun K => by rw [d3, cell_of hcb]; rfl
      rw [fG hF7, nn_ge (by omega), bit_nat (by omega) (by omega)]
      by_cases hg : gone.testBit i = true
      · rw [if_pos hg, eq_t rfl, ifB_true]
        refine fin _ (fun _ => True) ⟨h7, Nat.le_refl _, fun _ _ _ => rfl, .inl ⟨by rw [hadd]; rfl, M2, hF7, .refl, trivial⟩⟩ fun M3 hup _ => old M3 hup fun kk _ h => ?_
        rw [hg] at h; cases h
      · have hg' : gone.testBit i = false := by simpa using hg
        rw [if_neg hg, eq_f (by decide), ifB_false, lA, asI_int]
        by_cases ha : c.a = (p : Int)
        · have hb : ¬ c.b = (p : Int) := fun e => o3 (by rw [ha, e])
          rw [eq_t ha, Bool.not_true, ifB_false, lB, asI_int, lB, asI_int, eq_f hb, ifB_false]
          have hpk : p = fromU c 0 := by simp [fromU]; omega
          have hq : ((toU c 0 : Nat) : Int) = c.b := by simp [toU]; omega
          have key := sec1_ok (g := h7) (i := i) IH (by omega) hF7 sl7 hslb hum2 hp hx f hk hc (by omega) hok (cb := g.nx) hcb hcbl hcbf (kk := 0) (by omega) hg' hpk (ex.up _ hm)
          rw [hq] at key
          refine fin _ _ key fun M3 hup hD => old M3 hup fun kk hkk _ => ?_
          rcases (show kk = 0 ∨ kk = 1 by omega) with rfl | rfl
          · refine ⟨hD.1, fun h1 _ => ?_⟩
            exfalso
            simp only [Prod.mk.injEq, toU] at h1
            have := h1.1
            simp at this
            omega
          · refine ⟨fun h1 _ => ?_, fun h1 h2 => ?_⟩
            · exfalso
              simp only [Prod.mk.injEq, fromU] at h1
              have := h1.1
              simp at this
              omega
            · exact hD.2 (by simpa [fromU, toU] using h1) h2
        · rw [eq_f ha, Bool.not_false, ifB_true, lB, asI_int]
          by_cases hb : c.b = (p : Int)
          · rw [eq_t hb, Bool.not_true, ifB_false, lB, asI_int, lB, asI_int, eq_t hb, ifB_true, lA, asI_int]
            have hpk : p = fromU c 1 := by simp [fromU]; omega
            have hq : ((toU c 1 : Nat) : Int) = c.a := by simp [toU]; omega
            have key := sec1_ok (g := h7) (i := i) IH (by omega) hF7 sl7 hslb hum2 hp hx f hk hc (by omega) hok (cb := g.nx) hcb hcbl hcbf (kk := 1) (by omega) hg' hpk (ex.up _ hm)
            rw [hq] at key
            refine fin _ _ key fun M3 hup hD => old M3 hup fun kk hkk _ => ?_
            rcases (show kk = 0 ∨ kk = 1 by omega) with rfl | rfl
            · refine ⟨fun h1 _ => ?_, fun h1 h2 => ?_⟩
              · exfalso
                simp only [Prod.mk.injEq, fromU] at h1
                have := h1.1
                simp at this
                omega
              · exact hD.2 (by simpa [fromU, toU] using h1) h2
            · refine ⟨hD.1, fun h1 _ => ?_⟩
              exfalso
              simp only [Prod.mk.injEq, toU] at h1
              have := h1.1
              simp at this
              omega
          · rw [eq_f hb, Bool.not_false, ifB_true]
            refine fin _ (fun _ => True) ⟨h7, Nat.le_refl _, fun _ _ _ => rfl, .inl ⟨by rw [hadd]; rfl, M2, hF7, .refl, trivial⟩⟩ fun M3 hup _ => old M3 hup fun kk hkk _ => ?_
            have hne : ∀ kk, kk < 2 → p ≠ fromU c kk := fun kk _ e => by
              unfold fromU at e
              split at e <;> omega
            have hne' : ∀ kk, kk < 2 → p ≠ toU c kk := fun kk _ e => by
              unfold toU at e
              split at e <;> omega
            exact ⟨fun h1 _ => absurd (Prod.mk.injEq .. ▸ h1 : p = _ ∧ _).1 (hne kk hkk), fun h1 _ => absurd (Prod.mk.injEq .. ▸ h1 : p = _ ∧ _).1 (hne' kk hkk)⟩)
    (fun ws g hI => by
      obtain ⟨rfl, hn, hf, M2, hF2, ex, cm⟩ := hI
      refine ⟨.exit 0, [.bool false, iv l.length], g, ?_, by simp, hn, hf, .inl ⟨rfl, M2, hF2, ex, cm⟩⟩
      unfold f87_l1
      simp only [gv, List.getD_cons_zero, List.getD_cons_succ, asI_int]
      rw [lt_f (by omega), ifB_false]; rfl)
    (ws := [.bool false, iv 0]) (h := h4) (by omega) ⟨rfl, Nat.le_refl _, fun _ _ _ => rfl, M, hF, .refl, fun j c kk hj => by omega⟩
  exact ⟨e, ws, g, q1, q2⟩
end
end Go.AM
end

section
namespace Go.AM
open Go.Proofs
/-- The last part of the search: back along what has been waited. -/
noncomputable def secC (rec : Rec) (v0 : Value) (n0 n1 n2 : Int) (h56 : H) : Option (Value × H) :=
  ifB (lt 0 n1) (
    AM.nil v0 (
      asP v0 fun b114 b115 =>
      aix 224 (sub .i64 (add .i64 (mul .i64 32 n0) n1) 1) (
        ld Try.prog h56 3 b114 (at_ (off b115 3) (sub .i64 (add .i64 (mul .i64 32 n0) n1) 1) 1) fun v64 =>
        asI .i64 v64 fun n120 =>
        ifB (lt 0 n120) (
          AM.nil v0 (
            asP v0 fun b116 b117 =>
            aix 224 (sub .i64 (add .i64 (mul .i64 32 n0) n1) 1) (
              ld Try.prog h56 3 b116 (at_ (off b117 3) (sub .i64 (add .i64 (mul .i64 32 n0) n1) 1) 1) fun v65 =>
              asI .i64 v65 fun n121 =>
              AM.nil v0 (
                asP v0 fun b118 b119 =>
                aix 224 (sub .i64 (add .i64 (mul .i64 32 n0) n1) 1) (
                  st Try.prog h56 3 b118 (at_ (off b119 3) (sub .i64 (add .i64 (mul .i64 32 n0) n1) 1) 1) (.int .i64 (sub .i64 n121 1)) fun h57 =>
                  calls rec h57 87 [v0, (.int .i64 n0), (.int .i64 (sub .i64 n1 1)), (.int .i64 n2)] fun v66 h58 =>
                  asB v66 fun q34 =>
                  ifB q34 (
                    some ((.bool true), h58)) (
                    AM.nil v0 (
                      asP v0 fun b120 b121 =>
                      aix 224 (sub .i64 (add .i64 (mul .i64 32 n0) n1) 1) (
                        ld Try.prog h58 3 b120 (at_ (off b121 3) (sub .i64 (add .i64 (mul .i64 32 n0) n1) 1) 1) fun v67 =>
                        asI .i64 v67 fun n122 =>
                        AM.nil v0 (
                          asP v0 fun b122 b123 =>
                          aix 224 (sub .i64 (add .i64 (mul .i64 32 n0) n1) 1) (
                            st Try.prog h58 3 b122 (at_ (off b123 3) (sub .i64 (add .i64 (mul .i64 32 n0) n1) 1) 1) (.int .i64 (add .i64 n122 1)) fun h59 =>
                            some ((.bool false), h59))))))))))) (
          some ((.bool false), h56))))) (
    some ((.bool false), h56))
section
variable {n : Nat} {l : List Kl} {sl : Value} {gone s t m k fb : Nat} {W : Nat → Int} {U M : Nat → Bool} {g : H}
theorem idx87 {p x : Nat} (hp : p < 7) (hx : x ≤ 31) : add .i64 (mul .i64 32 (p : Int)) (x : Int) = ((32 * p + x : Nat) : Int) := by
  rw [mul64 (by omega) (by omega), add64 (by omega) (by omega)]
  omega
theorem secC_ok (IH : FindP n l sl gone s t m) (v : VP n l) (hfb : fb < g.nx) (hF : FbH g fb n sl gone W U M) (hsl : SlR g 59 3 sl (l.map Kl.cells)) (hslb : ∀ b, blkOf sl = some b → b ≠ fb) (hum : unmet M ≤ m) {p x : Nat} (hp : p < n) (hx : x ≤ 31) (f : RflOk l gone s t W U k (p, x)) (hk : k ≤ 100) (hpt : p ≠ t) (hm : M (32 * p + x) = true) :
    ∃ (r : Bool) (h' : H), secC rn (pt fb 0) p x t g = some (.bool r, h') ∧ g.nx ≤ h'.nx ∧ (∀ b, b < g.nx → b ≠ fb → h'.blk b = g.blk b) ∧
      ∃ W' U' M', FbH h' fb n sl gone W' U' M' ∧ (r = true → RflOk l gone s t W' U' (k + 1) (s, 0)) ∧ (r = false → W' = W ∧ U' = U ∧ ExplR l gone W U t M M' ∧ ∀ y, x = y + 1 → 0 < W (32 * p + y) → M' (32 * p + y) = true) := by
  have n7 := v.n7
  unfold secC
  by_cases h0 : x = 0
  · subst h0
    rw [lt_f (by omega), ifB_false]
    exact ⟨false, g, rfl, Nat.le_refl _, fun _ _ _ => rfl, W, U, M, hF, fun h => (by cases h), fun _ => ⟨rfl, rfl, .refl, fun y h => by omega⟩⟩
  · obtain ⟨y, rfl⟩ : ∃ y, x = y + 1 := ⟨x - 1, by omega⟩
    have he : sub .i64 (add .i64 (mul .i64 32 (p : Int)) ((y + 1 : Nat) : Int)) 1 = ((32 * p + y : Nat) : Int) := by
      rw [idx87 (by omega) hx, sub64 (by omega) (by omega)]; omega
    have hj : 32 * p + y < 224 := by omega
    rw [lt_t (by omega), ifB_true, fW hF he hj]
    by_cases hw : 0 < W (32 * p + y)
    · have hwb := f.w_le v (p := p) (x := y) (by omega) (by omega) hpt
      rw [lt_t hw, ifB_true, fW hF he hj, fWs hF he hj]
      have e1 : sub .i64 (W (32 * p + y)) 1 = W (32 * p + y) - 1 := sub64 (by omega) (by omega)
      rw [e1]
      have f1 := f.unwait (by omega) (by omega) hw
      have hF1 : FbH (g.set fb (.row (rowF n sl gone (updF W (32 * p + y) (W (32 * p + y) - 1)) U M) 96 true)) fb n sl gone (updF W (32 * p + y) (W (32 * p + y) - 1)) U M := blk_set_self _ _ _
      have n1 : (g.set fb (.row (rowF n sl gone (updF W (32 * p + y) (W (32 * p + y) - 1)) U M) 96 true)).nx = g.nx := rfl
      have b1 : ∀ b, b ≠ fb → (g.set fb (.row (rowF n sl gone (updF W (32 * p + y) (W (32 * p + y) - 1)) U M) 96 true)).blk b = g.blk b := fun b hb => blk_set_ne _ _ _ hb
      generalize g.set fb (.row (rowF n sl gone (updF W (32 * p + y) (W (32 * p + y) - 1)) U M) 96 true) = g1 at *
      obtain ⟨r, g2, c87, n2, b2, W', U', M', hF2, hr1, hr2⟩ := IH g1 fb p y k _ U M hum (by omega) hF1 (slR_keep hsl (by omega) fun b hb => b1 b (hslb b hb)) hslb hp (by omega) f1 hk
      rw [show sub .i64 ((y + 1 : Nat) : Int) 1 = (y : Int) by rw [sub64 (by omega) (by omega)]; omega, calls_eq (xs := [_, _, _, _]) c87, asB_bool]
      cases r with
      | true =>
        rw [ifB_true]
        exact ⟨true, g2, rfl, by omega, fun b hb hne => by rw [b2 b (by omega) hne, b1 b hne], W', U', M', hF2, fun _ => hr1 rfl, fun h => by cases h⟩
      | false =>
        obtain ⟨rfl, rfl, ex, hmet, _⟩ := hr2 rfl
        rw [ifB_false, fW hF2 he hj, updF_at, fWs hF2 he hj]
        have e2 : add .i64 (W (32 * p + y) - 1) 1 = W (32 * p + y) := by rw [add64 (by omega) (by omega)]; omega
        rw [e2, updF_back]
        refine ⟨false, _, rfl, by rw [nx_set]; omega, fun b hb hne => by rw [blk_set_ne _ _ _ hne, b2 b (by omega) hne, b1 b hne], W, U', M', blk_set_self _ _ _, fun h => (by cases h), fun _ => ⟨rfl, rfl, ?_, fun y' hy' _ => ?_⟩⟩
        · exact ex.turn hm fun q y' u hq hy' hne hres => res_unwait hy' (by omega) hne hres
        · have : y' = y := by omega
          subst this
          exact hmet
    · rw [lt_f hw, ifB_false]
      refine ⟨false, g, rfl, Nat.le_refl _, fun _ _ _ => rfl, W, U, M, hF, fun h => (by cases h), fun _ => ⟨rfl, rfl, .refl, fun y' hy' h => ?_⟩⟩
      have : y' = y := by omega
      subst this
      exact absurd h hw
theorem find_all (v : VP n l) (hgone : gone < 2 ^ 62) : ∀ m, FindP n l sl gone s t m := by
  intro m
  induction m using Nat.strongRecOn with
  | ind m ihm =>
    intro h fb p x k W U M hum hfb hF hsl hslb hp hx f hk
    have n7 := v.n7
    have l24 := v.len
    have hj : 32 * p + x < 224 := by omega
    have he := idx87 (p := p) (x := x) (by omega) hx
    by_cases hpt : p = t
    · subst hpt
      refine ⟨true, h, p87 (k := 0) ?_ rfl (.refl _), Nat.le_refl _, fun _ _ _ => rfl, W, U, M, hF, fun _ => f.done, fun h => by cases h⟩
      unfold f87
      rw [eq_t rfl, ifB_true]
    · by_cases hmet : M (32 * p + x) = true
      · refine ⟨false, h, p87 (k := 0) ?_ rfl (.refl _), Nat.le_refl _, fun _ _ _ => rfl, W, U, M, hF, fun h => (by cases h), fun _ => ⟨rfl, rfl, .refl, hmet, hpt⟩⟩
        unfold f87
        rw [eq_f (by omega), ifB_false, lt_f (by omega), ifB_false, lt_f (by omega), ifB_false, fM hF he hj, hmet, ifB_true]
      · have hmet' : M (32 * p + x) = false := by simpa using hmet
        have hun := unmet_set hj hmet'
        have IH : FindP n l sl gone s t (m - 1) := ihm (m - 1) (by omega)
        have hum1 : unmet (updF M (32 * p + x) true) ≤ m - 1 := by omega
        have hm1 : updF M (32 * p + x) true (32 * p + x) = true := updF_at _ _ _
        have hF1 : FbH (h.set fb (.row (rowF n sl gone W U (updF M (32 * p + x) true)) 96 true)) fb n sl gone W U (updF M (32 * p + x) true) := blk_set_self _ _ _
        have n1 : (h.set fb (.row (rowF n sl gone W U (updF M (32 * p + x) true)) 96 true)).nx = h.nx := rfl
        have b1 : ∀ b, b ≠ fb → (h.set fb (.row (rowF n sl gone W U (updF M (32 * p + x) true)) 96 true)).blk b = h.blk b := fun b hb => blk_set_ne _ _ _ hb
        have entry : ∀ (r : Bool) (h1 : H), f87 rn 1000 (pt fb 0) p x t h = some (.bool r, h1) → h.nx ≤ h1.nx → ∃ h', rn 87 #[pt fb 0, iv p, iv x, iv t] h = some (.bool r, h') ∧ h.nx ≤ h'.nx ∧ h'.nx ≤ h1.nx ∧ ∀ b, b < h.nx → h'.blk b = h1.blk b := by
          intro r h1 hh hn
          obtain ⟨a, b, c⟩ := trunc_blk (P := Try.prog) (v := .bool r) hn
          exact ⟨_, t87 hh, a, b, c⟩
        -- the end of a search in vain
        have vain : ∀ (M4 : Nat → Bool), ExplR l gone W U t (updF M (32 * p + x) true) M4 → (x < 31 → M4 (32 * p + (x + 1)) = true) → CallsMet l gone U p x l.length M4 → (∀ y, x = y + 1 → 0 < W (32 * p + y) → M4 (32 * p + y) = true) → ExplR l gone W U t M M4 ∧ M4 (32 * p + x) = true := by
          intro M4 ex hA hB hC
          refine ⟨⟨fun j hj => ex.up j ?_, fun q y hq hy h1 h2 => ?_⟩, ex.up _ hm1⟩
          · unfold updF
            split
            · rfl
            · exact hj
          · by_cases e : q = p ∧ y = x
            · obtain ⟨rfl, rfl⟩ := e
              refine ⟨hpt, fun u hu => ?_⟩
              rcases hu with ⟨h3, rfl⟩ | ⟨y', h3, rfl, h4⟩ | ⟨i, c, kk, h3, h4, h5, h6⟩
              · exact hA h3
              · exact hC y' h3 h4
              · have hil := (List.getElem?_eq_some_iff.1 h3).1
                obtain ⟨a, b⟩ := hB i c kk hil h3 h4 h5
                rcases h6 with ⟨h6, h7, rfl⟩ | ⟨h6, h7, rfl⟩
                · exact a h6 h7
                · exact b h6 h7
            · exact ex.cl q y hq hy h1 (by rw [updF_ne _ _ (by omega)]; exact h2)
        -- what follows on the loop
        have tail : ∀ (h4 : H) (M2 : Nat → Bool), h.nx ≤ h4.nx → (∀ b, b < h.nx → b ≠ fb → h4.blk b = h.blk b) → FbH h4 fb n sl gone W U M2 → ExplR l gone W U t (updF M (32 * p + x) true) M2 → (x < 31 → M2 (32 * p + (x + 1)) = true) →
            ∃ (r : Bool) (h' : H), (lp 1000 (f87_l1 rn 1000 (pt fb 0) p x t sl l.length) [(.bool false), (.int .i64 0)] h4 fun e0 ws1 h56 => onE e0 0 (secC rn (pt fb 0) p x t h56) (onR e0 (some (gv ws1 0, h56)))) = some (.bool r, h') ∧ h.nx ≤ h'.nx ∧ (∀ b, b < h.nx → b ≠ fb → h'.blk b = h.blk b) ∧
              ∃ W' U' M', FbH h' fb n sl gone W' U' M' ∧ (r = true → RflOk l gone s t W' U' (k + 1) (s, 0)) ∧ (r = false → W' = W ∧ U' = U ∧ ExplR l gone W U t M M' ∧ M' (32 * p + x) = true ∧ p ≠ t) := by
          intro h4 M2 hn4 hb4 hF4 ex hA
          have hsl4 : SlR h4 59 3 sl (l.map Kl.cells) := slR_keep hsl hn4 fun b hb => hb4 b (slR_bel hsl hb) (hslb b hb)
          obtain ⟨e, ws, g, q1, n5, b5, q2⟩ := l871 IH v hgone (by omega) hF4 hsl4 hslb (Nat.le_trans (unmet_le ex.up) hum1) hp hx f hk (ex.up _ hm1)
          rw [lp_eq q1]
          rcases q2 with ⟨rfl, M3, hF5, ex3, cm⟩ | ⟨rfl, hw, W', U', M', hF5, hR⟩
          · rw [onE_exit, if_pos rfl]
            obtain ⟨r, h', c1, n6, b6, W', U', M4, hF6, r1, r2⟩ := secC_ok (g := g) IH v (by omega) hF5 (slR_keep hsl4 n5 fun b hb => b5 b (slR_bel hsl4 hb) (hslb b hb)) hslb (Nat.le_trans (unmet_le (ex.trans ex3).up) hum1) hp hx f hk hpt (ex3.up _ (ex.up _ hm1))
            refine ⟨r, h', c1, by omega, fun b hb hne => by rw [b6 b (by omega) hne, b5 b (by omega) hne, hb4 b hb hne], W', U', M4, hF6, r1, fun hr => ?_⟩
            obtain ⟨rfl, rfl, ex4, hC⟩ := r2 hr
            obtain ⟨z1, z2⟩ := vain M4 ((ex.trans ex3).trans ex4) (fun h => ex4.up _ (ex3.up _ (hA h))) (fun j c kk h1 h2 h3 h4 => ⟨fun h5 h6 => ex4.up _ ((cm j c kk h1 h2 h3 h4).1 h5 h6), fun h5 h6 => ex4.up _ ((cm j c kk h1 h2 h3 h4).2 h5 h6)⟩) hC
            exact ⟨rfl, rfl, z1, z2, hpt⟩
          · rw [onE_ret, onR_ret, hw]
            exact ⟨true, g, rfl, by omega, fun b hb hne => by rw [b5 b (by omega) hne, hb4 b hb hne], W', U', M', hF5, fun _ => hR, fun h => by cases h⟩
        -- the function itself
        have whole : ∃ (r : Bool) (h1 : H), f87 rn 1000 (pt fb 0) p x t h = some (.bool r, h1) ∧ h.nx ≤ h1.nx ∧ (∀ b, b < h.nx → b ≠ fb → h1.blk b = h.blk b) ∧
            ∃ W' U' M', FbH h1 fb n sl gone W' U' M' ∧ (r = true → RflOk l gone s t W' U' (k + 1) (s, 0)) ∧ (r = false → W' = W ∧ U' = U ∧ ExplR l gone W U t M M' ∧ M' (32 * p + x) = true ∧ p ≠ t) := by
          have ln : ∀ {T : Type} (K : Int → Option T), len sl K = K (l.length : Int) := fun K => by rw [hsl.len]; simp
          by_cases h31 : x < 31
          · have hwb := f.w_le v (p := p) (x := x) (by omega) h31 hpt
            have f2 := f.wait (by omega) h31
            have ea : add .i64 (W (32 * p + x)) 1 = W (32 * p + x) + 1 := by have := f.wnn (32 * p + x); exact add64 (by omega) (by omega)
            have es : sub .i64 (W (32 * p + x) + 1) 1 = W (32 * p + x) := by have := f.wnn (32 * p + x); rw [sub64 (by omega) (by omega)]; omega
            have ex1 : add .i64 (x : Int) 1 = ((x + 1 : Nat) : Int) := by rw [add64 (by omega) (by omega)]; omega
            have start : f87 rn 1000 (pt fb 0) p x t h = (calls rn ((h.set fb (.row (rowF n sl gone W U (updF M (32 * p + x) true)) 96 true)).set fb (.row (rowF n sl gone (updF W (32 * p + x) (W (32 * p + x) + 1)) U (updF M (32 * p + x) true)) 96 true)) 87 [pt fb 0, iv p, iv (x + 1 : Nat), iv t] fun v3 h3 =>
                asB v3 fun q1 => ifB q1 (some (.bool true, h3)) (
                  AM.nil (pt fb 0) (asP (pt fb 0) fun b o => aix 224 (add .i64 (mul .i64 32 (p : Int)) x) (ld Try.prog h3 3 b (at_ (off o 3) (add .i64 (mul .i64 32 (p : Int)) x) 1) fun v4 => asI .i64 v4 fun n4 =>
                    AM.nil (pt fb 0) (asP (pt fb 0) fun b o => aix 224 (add .i64 (mul .i64 32 (p : Int)) x) (st Try.prog h3 3 b (at_ (off o 3) (add .i64 (mul .i64 32 (p : Int)) x) 1) (.int .i64 (sub .i64 n4 1)) fun h4 =>
                      AM.nil (pt fb 0) (asP (pt fb 0) fun b o => ld Try.prog h4 22 b (off o 1) fun v5 => len v5 fun n5 =>
                        lp 1000 (f87_l1 rn 1000 (pt fb 0) p x t v5 n5) [(.bool false), (.int .i64 0)] h4 fun e0 ws1 h56 => onE e0 0 (secC rn (pt fb 0) p x t h56) (onR e0 (some (gv ws1 0, h56)))))))))) := by
              unfold f87
              rw [eq_f (by omega), ifB_false, lt_f (by omega), ifB_false, lt_f (by omega), ifB_false, fM hF he hj, hmet', ifB_false, fMs hF he hj, lt_t (by omega), ifB_true, fW hF1 he hj, fWs hF1 he hj, ea, ex1]
              rfl
            have hF2 : FbH ((h.set fb (.row (rowF n sl gone W U (updF M (32 * p + x) true)) 96 true)).set fb (.row (rowF n sl gone (updF W (32 * p + x) (W (32 * p + x) + 1)) U (updF M (32 * p + x) true)) 96 true)) fb n sl gone (updF W (32 * p + x) (W (32 * p + x) + 1)) U (updF M (32 * p + x) true) := blk_set_self _ _ _
            have n2 : ((h.set fb (.row (rowF n sl gone W U (updF M (32 * p + x) true)) 96 true)).set fb (.row (rowF n sl gone (updF W (32 * p + x) (W (32 * p + x) + 1)) U (updF M (32 * p + x) true)) 96 true)).nx = h.nx := rfl
            have b2 : ∀ b, b ≠ fb → ((h.set fb (.row (rowF n sl gone W U (updF M (32 * p + x) true)) 96 true)).set fb (.row (rowF n sl gone (updF W (32 * p + x) (W (32 * p + x) + 1)) U (updF M (32 * p + x) true)) 96 true)).blk b = h.blk b := fun b hb => by rw [blk_set_ne _ _ _ hb, blk_set_ne _ _ _ hb]
            rw [start]
            clear start hF1 n1 b1
            generalize (h.set fb (.row (rowF n sl gone W U (updF M (32 * p + x) true)) 96 true)).set fb (.row (rowF n sl gone (updF W (32 * p + x) (W (32 * p + x) + 1)) U (updF M (32 * p + x) true)) 96 true) = h2 at *
            obtain ⟨r, h3, c87, n3, b3, W', U', M2, hF3, r1, r2⟩ := IH h2 fb p (x + 1) k _ U _ hum1 (by omega) hF2 (slR_keep hsl (by omega) fun b hb => b2 b (hslb b hb)) hslb hp (by omega) f2 hk
            rw [calls_eq (xs := [_, _, _, _]) c87, asB_bool]
            cases r with
            | true =>
              rw [ifB_true]
              exact ⟨true, h3, rfl, by omega, fun b hb hne => by rw [b3 b (by omega) hne, b2 b hne], W', U', M2, hF3, fun _ => r1 rfl, fun h => by cases h⟩
            | false =>
              obtain ⟨rfl, rfl, ex, hA, _⟩ := r2 rfl
              rw [ifB_false, fW hF3 he hj, updF_at, fWs hF3 he hj, es, updF_back]
              have hF4 : FbH (h3.set fb (.row (rowF n sl gone W U' M2) 96 true)) fb n sl gone W U' M2 := blk_set_self _ _ _
              have n4 : (h3.set fb (.row (rowF n sl gone W U' M2) 96 true)).nx = h3.nx := rfl
              have b4 : ∀ b, b ≠ fb → (h3.set fb (.row (rowF n sl gone W U' M2) 96 true)).blk b = h3.blk b := fun b hb => blk_set_ne _ _ _ hb
              generalize h3.set fb (.row (rowF n sl gone W U' M2) 96 true) = h4 at *
              rw [fL hF4, ln]
              exact tail h4 M2 (by omega) (fun b hb hne => by rw [b4 b hne, b3 b (by omega) hne, b2 b hne]) hF4 (ex.turn hm1 fun q y u hq hy hne hres => res_wait hres) fun _ => hA
          · have start : f87 rn 1000 (pt fb 0) p x t h = (AM.nil (pt fb 0) (asP (pt fb 0) fun b o => ld Try.prog (h.set fb (.row (rowF n sl gone W U (updF M (32 * p + x) true)) 96 true)) 22 b (off o 1) fun v5 => len v5 fun n5 =>
                        lp 1000 (f87_l2 rn 1000 (pt fb 0) p x t v5 n5) [(.bool false), (.int .i64 0)] (h.set fb (.row (rowF n sl gone W U (updF M (32 * p + x) true)) 96 true)) fun e0 ws1 h56 => onE e0 0 (secC rn (pt fb 0) p x t h56) (onR e0 (some (gv ws1 0, h56))))) := by
              unfold f87
              rw [eq_f (by omega), ifB_false, lt_f (by omega), ifB_false, lt_f (by omega), ifB_false, fM hF he hj, hmet', ifB_false, fMs hF he hj, lt_f (by omega), ifB_false]
              rfl
            rw [start, l87_same]
            clear start
            generalize h.set fb (.row (rowF n sl gone W U (updF M (32 * p + x) true)) 96 true) = h1 at *
            rw [fL hF1, ln]
            exact tail h1 _ (by omega) (fun b hb hne => b1 b hne) hF1 .refl fun h => absurd h h31
        obtain ⟨r, h1, c1, n2, b2, W', U', M', hF', r1, r2⟩ := whole
        obtain ⟨h', d1, d2, d3', d4'⟩ := entry r h1 c1 n2
        exact ⟨r, h', d1, d2, fun b hb hne => by rw [d4' b hb, b2 b hb hne], W', U', M', (d4' fb hfb).trans hF', r1, r2⟩
end
end Go.AM
end

section
namespace Go.AM
open Go.Proofs
noncomputable def f51_l1 (rec : Rec) (_k : Nat) (n0 : Int) (n1 : Int) (h1 : H) (ws0 : List Value) (h3 : H) : Option (Ex × List Value × H) :=
 bld Try.prog 94 [] fun v3 =>
 st Try.prog h3 94 (nx h1) (off 0 275) v3 fun h4 =>
 calls rec h4 87 [(pt (nx h1) 0), (.int .i64 n0), (.int .i64 0), (.int .i64 n1)] fun v4 h5 =>
 asB v4 fun q0 =>
 ifB (not q0) (
 out .ret [gv ws0 1, gv ws0 1] h5) (
 asI .i64 (gv ws0 1) fun n3 =>
 out .normal [gv ws0 0, (.int .i64 (add .i64 n3 1))] h5)
noncomputable def f51 (rec : Rec) (k : Nat) (v0 : Value) (n0 : Int) (n1 : Int) (n2 : Int) (h0 : H) : Option (Value × H) :=
 bx h0 24 v0 fun h1 =>
 ld Try.prog h1 24 (nx h0) 0 fun v1 =>
 bld Try.prog 96 [(0, v1), (1, (.int .i64 n2))] fun v2 =>
 bx h1 96 v2 fun h2 =>
 lp k (f51_l1 rec k n0 n1 h1) [(.int .i64 0), (.int .i64 0)] h2 fun e0 ws1 h6 =>
 onR e0 (
 some (gv ws1 0, h6))
theorem e51 (rec : Rec) (k : Nat) (v0 : Value) (n0 : Int) (n1 : Int) (n2 : Int) (h : H) : bodyT Try.prog E0 SC (XC Try.prog rec k) 51 (Value × H) [.opq v0, .int .i64 n0, .int .i64 n1, .int .i64 n2] h (fun v h => some (v, h)) = f51 rec k v0 n0 n1 n2 h := by kernel_rfl
theorem t51 {k : Nat} {v0 : Value} {n0 : Int} {n1 : Int} {n2 : Int} {h h1 : H} {v : Value} (hh : f51 rn k v0 n0 n1 n2 h = some (v, h1)) : rn 51 #[v0, .int .i64 n0, .int .i64 n1, .int .i64 n2] h = some (v, trunc Try.prog h h1 v) :=
  run_of_bodyT (args := [.opq v0, .int .i64 n0, .int .i64 n1, .int .i64 n2]) rfl ((e51 _ _ _ _ _ _ _).trans hh)
theorem p51 {k : Nat} {v0 : Value} {n0 : Int} {n1 : Int} {n2 : Int} {h h1 : H} {v : Value} (hh : f51 rn k v0 n0 n1 n2 h = some (v, h1)) (hp : plainO v = true) (x : Ext h h1) : rn 51 #[v0, .int .i64 n0, .int .i64 n1, .int .i64 n2] h = some (v, h) := by rw [t51 hh, trunc_pure hp x]
noncomputable def f52_l1 (rec : Rec) (_k : Nat) (n0 : Int) (n1 : Int) (h0 : H) (n3 : Int) (ws0 : List Value) (h3 : H) : Option (Ex × List Value × H) :=
 asI .i64 (gv ws0 3) fun n4 =>
 ifB (lt n4 n3) (
 asI .i64 (gv ws0 2) fun n5 =>
 ifB (lt 0 n5) (
 ld Try.prog h3 24 (nx h0) 0 fun v4 =>
 asK (gv ws0 3) fun n6 =>
 nn n6 (
 asI .i64 (gv ws0 1) fun n7 =>
 calls rec h3 51 [v4, (.int .i64 n0), (.int .i64 n1), (.int .i64 (or .i64 n7 (shl .i64 1 n6)))] fun v5 h4 =>
 asI .i64 v5 fun n8 =>
 asI .i64 (gv ws0 2) fun n9 =>
 ifB (eq n8 (sub .i64 n9 1)) (
 bls Try.prog h4 25 1 [(0, gv ws0 3)] fun v6 h5 =>
 app Try.prog h5 25 25 (gv ws0 0) v6 fun v7 h6 =>
 asK (gv ws0 3) fun n10 =>
 nn n10 (
 asI .i64 (gv ws0 1) fun n11 =>
 asI .i64 (gv ws0 2) fun n12 =>
 asI .i64 (gv ws0 3) fun n13 =>
 out .normal [v7, (.int .i64 (or .i64 n11 (shl .i64 1 n10))), (.int .i64 (sub .i64 n12 1)), (.int .i64 (add .i64 n13 1))] h6)) (
 asI .i64 (gv ws0 3) fun n14 =>
 out .normal [gv ws0 0, gv ws0 1, gv ws0 2, (.int .i64 (add .i64 n14 1))] h4))) (
 asI .i64 (gv ws0 3) fun n15 =>
 out .normal [gv ws0 0, gv ws0 1, gv ws0 2, (.int .i64 (add .i64 n15 1))] h3)) (
 out (.exit 0) [gv ws0 0, gv ws0 1, gv ws0 2, gv ws0 3] h3)
noncomputable def f52 (rec : Rec) (k : Nat) (v0 : Value) (n0 : Int) (n1 : Int) (h0 : H) : Option (Value × H) :=
 bx h0 24 v0 fun h1 =>
 ld Try.prog h1 24 (nx h0) 0 fun v1 =>
 calls rec h1 51 [v1, (.int .i64 n0), (.int .i64 n1), (.int .i64 0)] fun v2 h2 =>
 asI .i64 v2 fun n2 =>
 ld Try.prog h2 22 (nx h0) (off 0 1) fun v3 =>
 len v3 fun n3 =>
 lp k (f52_l1 rec k n0 n1 h0 n3) [(.slice none 0 0), (.int .i64 0), (.int .i64 n2), (.int .i64 0)] h2 fun e0 ws1 h7 =>
 onE e0 0 (
 some (gv ws1 0, h7)) (
 none)
theorem e52 (rec : Rec) (k : Nat) (v0 : Value) (n0 : Int) (n1 : Int) (h : H) : bodyT Try.prog E0 SC (XC Try.prog rec k) 52 (Value × H) [.opq v0, .int .i64 n0, .int .i64 n1] h (fun v h => some (v, h)) = f52 rec k v0 n0 n1 h := by kernel_rfl
theorem t52 {k : Nat} {v0 : Value} {n0 : Int} {n1 : Int} {h h1 : H} {v : Value} (hh : f52 rn k v0 n0 n1 h = some (v, h1)) : rn 52 #[v0, .int .i64 n0, .int .i64 n1] h = some (v, trunc Try.prog h h1 v) :=
  run_of_bodyT (args := [.opq v0, .int .i64 n0, .int .i64 n1]) rfl ((e52 _ _ _ _ _ _).trans hh)
theorem x52 {k : Nat} {v0 : Value} {n0 : Int} {n1 : Int} {h h1 : H} {v : Value} (hh : f52 rn k v0 n0 n1 h = some (v, h1)) (hp : plainO v = false) : rn 52 #[v0, .int .i64 n0, .int .i64 n1] h = some (v, h1) := by rw [t52 hh, trunc_not hp]
noncomputable def f50_l2 (_rec : Rec) (_k : Nat) (v2 : Value) (n5 : Int) (ws1 : List Value) (h4 : H) : Option (Ex × List Value × H) :=
 asI .i64 (gv ws1 2) fun n6 =>
 ifB (lt n6 n5) (
 asK (gv ws1 2) fun n7 =>
 six v2 n7 1 fun b2 b3 =>
 ld Try.prog h4 3 b2 b3 fun v5 =>
 asI .i64 v5 fun n8 =>
 asI .i64 (gv ws1 1) fun n9 =>
 nn n8 (
 ifB (eq (and .i64 (shr .i64 n9 n8) 1) 1) (
 out .ret [(.bool false), gv ws1 1, gv ws1 2] h4) (
 nn n8 (
 asI .i64 (gv ws1 1) fun n10 =>
 asI .i64 (gv ws1 2) fun n11 =>
 out .normal [gv ws1 0, (.int .i64 (or .i64 n10 (shl .i64 1 n8))), (.int .i64 (add .i64 n11 1))] h4)))) (
 out (.exit 2) [gv ws1 0, gv ws1 1, gv ws1 2] h4)
noncomputable def f50_l1 (rec : Rec) (k : Nat) (n0 : Int) (n1 : Int) (v1 : Value) (h0 : H) (n2 : Int) (ws0 : List Value) (h2 : H) : Option (Ex × List Value × H) :=
 asI .i64 (gv ws0 2) fun n3 =>
 ifB (lt n3 n2) (
 asK (gv ws0 2) fun n4 =>
 six v1 n4 1 fun b0 b1 =>
 ld Try.prog h2 25 b0 b1 fun v2 =>
 ld Try.prog h2 24 (nx h0) 0 fun v3 =>
 calls rec h2 29 [v3, (.int .i64 n0), (.int .i64 n1), v2] fun v4 h3 =>
 asB v4 fun q0 =>
 ifB (not q0) (
 out .ret [(.bool false), gv ws0 1, gv ws0 2] h3) (
 len v2 fun n5 =>
 lp k (f50_l2 rec k v2 n5) [gv ws0 0, gv ws0 1, (.int .i64 0)] h3 fun e0 ws2 h5 =>
 onE e0 2 (
 asI .i64 (gv ws0 2) fun n12 =>
 out .normal [gv ws2 0, gv ws2 1, (.int .i64 (add .i64 n12 1))] h5) (
 onR e0 (
 out .ret [gv ws2 0, gv ws2 1, gv ws0 2] h5)))) (
 out (.exit 0) [gv ws0 0, gv ws0 1, gv ws0 2] h2)
noncomputable def f50 (rec : Rec) (k : Nat) (v0 : Value) (n0 : Int) (n1 : Int) (v1 : Value) (h0 : H) : Option (Value × H) :=
 bx h0 24 v0 fun h1 =>
 len v1 fun n2 =>
 lp k (f50_l1 rec k n0 n1 v1 h0 n2) [(.bool false), (.int .i64 0), (.int .i64 0)] h1 fun e1 ws3 h6 =>
 onE e1 0 (
 some ((.bool true), h6)) (
 onR e1 (
 some (gv ws3 0, h6)))
theorem e50 (rec : Rec) (k : Nat) (v0 : Value) (n0 : Int) (n1 : Int) (v1 : Value) (h : H) : bodyT Try.prog E0 SC (XC Try.prog rec k) 50 (Value × H) [.opq v0, .int .i64 n0, .int .i64 n1, .opq v1] h (fun v h => some (v, h)) = f50 rec k v0 n0 n1 v1 h := by kernel_rfl
theorem t50 {k : Nat} {v0 : Value} {n0 : Int} {n1 : Int} {v1 : Value} {h h1 : H} {v : Value} (hh : f50 rn k v0 n0 n1 v1 h = some (v, h1)) : rn 50 #[v0, .int .i64 n0, .int .i64 n1, v1] h = some (v, trunc Try.prog h h1 v) :=
  run_of_bodyT (args := [.opq v0, .int .i64 n0, .int .i64 n1, .opq v1]) rfl ((e50 _ _ _ _ _ _ _).trans hh)
theorem p50 {k : Nat} {v0 : Value} {n0 : Int} {n1 : Int} {v1 : Value} {h h1 : H} {v : Value} (hh : f50 rn k v0 n0 n1 v1 h = some (v, h1)) (hp : plainO v = true) (x : Ext h h1) : rn 50 #[v0, .int .i64 n0, .int .i64 n1, v1] h = some (v, h) := by rw [t50 hh, trunc_pure hp x]
end Go.AM
end

section
namespace Go.AM
open Go.Proofs
theorem bld96 (n : Int) (sl : Value) (gone : Nat) : build Try.prog 96 [(0, .agg #[iv n, sl]), (1, iv gone)] = some (.agg (rowF n sl gone (fun _ => 0) (fun _ => false) (fun _ => false)).toArray) := by kernel_rfl
theorem bld94 : build Try.prog 94 [] = some (.agg (List.replicate 224 (.bool false)).toArray) := by kernel_rfl
section
variable {n : Nat} {l : List Kl} {sl : Value} {gone : Nat}
theorem rowF_clear {W : Nat → Int} {U M : Nat → Bool} : setAt (rowF n sl gone W U M) 275 (List.replicate 224 (.bool false)) = rowF n sl gone W U (fun _ => false) := by
  refine List.ext_getElem? fun i => ?_
  rw [setAt_get _ _ _ _ (by rw [List.length_replicate, rowF_len]; omega), List.length_replicate]
  by_cases hi : i < 499
  · rw [rowF_get hi, rowF_get hi]
    by_cases h2 : 275 ≤ i
    · rw [if_pos ⟨h2, by omega⟩, List.getElem?_replicate, if_pos (by omega)]
      obtain ⟨j, rfl⟩ : ∃ j, i = 275 + j := ⟨i - 275, by omega⟩
      rw [cellF_M]
    · rw [if_neg (by omega)]
      unfold cellF
      simp only [show i < 275 by omega, if_true]
  · have h1 : ∀ (W : Nat → Int) (U M : Nat → Bool), (rowF n sl gone W U M)[i]? = none := fun W U M => by rw [List.getElem?_eq_none]; rw [rowF_len]; omega
    rw [h1, h1, if_neg (by omega)]
theorem st94 {R : Type} {h : H} {fb : Nat} {W : Nat → Int} {U M : Nat → Bool} (hF : FbH h fb n sl gone W U M) (K : H → Option R) : st Try.prog h 94 fb (off 0 275) (.agg (List.replicate 224 (.bool false)).toArray) K = K (h.set fb (.row (rowF n sl gone W U (fun _ => false)) 96 true)) := by
  rw [w94]
  have : wrc 224 h fb (off 0 275) (.agg (List.replicate 224 (.bool false)).toArray) = some (h.set fb (.row (rowF n sl gone W U (fun _ => false)) 96 true)) := by
    unfold wrc
    rw [hF]
    simp only [Value.cells, List.size_toArray, List.length_replicate, off]
    rw [if_pos ⟨trivial, by rw [rowF_len]; omega, by rw [List.all_eq_true]; intro x hx; rw [List.eq_of_mem_replicate hx]; rfl⟩, rowF_clear]
  rw [this, Option.bind_some]
theorem ref_small {s t k : Nat} {W : Nat → Int} {U : Nat → Bool} (v : VP n l) (hst : (s : Int) ≠ t) (f : RflOk l gone s t W U k (s, 0)) : k ≤ l.length := by
  have := ref_le v f (X := fun _ p => p == (s : Int)) (fun _ _ => .refl _) (by simp) (by simpa using Ne.symm hst)
  refine Nat.le_trans this ?_
  rw [penS_sum, maskL_len]
  refine Nat.le_trans (sumR_le (g := fun _ => 1) fun i _ => ?_) ?_
  · split
    · exact penB_le _ _ _
    · omega
  · generalize l.length = m
    induction m with
    | zero => simp [sumR]
    | succ m ih => rw [sumR_succ]; omega
theorem s51 {h : H} {s t : Int} (hs : SlR h 59 3 sl (l.map Kl.cells)) (hp : pairP n l s t = true) (hgone : gone < 2 ^ 62) : rn 51 #[.agg #[iv n, sl], iv s, iv t, iv gone] h = some (iv (mcP l s t gone), h) := by
  obtain ⟨hv, hsn, htn, hst⟩ := pairP_parts hp
  obtain ⟨s, rfl⟩ := Int.eq_ofNat_of_zero_le hsn.1
  obtain ⟨t, rfl⟩ := Int.eq_ofNat_of_zero_le htn.1
  have v := vp_iff.1 hv
  have l24 := v.len
  generalize e1 : h.new (.row [iv n, sl] 24 true) = h1
  have n1 : h1.nx = h.nx + 1 := by rw [← e1]; rfl
  have x1 : Ext h h1 := by rw [← e1]; exact .new _ _
  have b1 : h1.blk h.nx = some (.row [iv n, sl] 24 true) := by rw [← e1, blk_new_self]
  generalize e2 : h1.new (.row (rowF n sl gone (fun _ => 0) (fun _ => false) (fun _ => false)) 96 true) = h2
  have n2 : h2.nx = h.nx + 2 := by rw [← e2]; show h1.nx + 1 = _; omega
  have x2 : Ext h1 h2 := by rw [← e2]; exact .new _ _
  have hF2 : FbH h2 h1.nx n sl gone (fun _ => 0) (fun _ => false) (fun _ => false) := by show h2.blk h1.nx = _; rw [← e2, blk_new_self]
  have hslb : ∀ b, blkOf sl = some b → b ≠ h1.nx := fun b hb => by have := slR_bel hs hb; omega
  obtain ⟨e, ws, g, q1, rfl, m1, m2, k, rfl, m3⟩ := lp_meas (F := f51_l1 rn 1000 s t h1) (σ := Nat)
    (fun k ws g => h2.nx ≤ g.nx ∧ (∀ b, b < h1.nx → g.blk b = h1.blk b) ∧ (∃ x, ws = [x, iv k]) ∧ ∃ W U M, FbH g h1.nx n sl gone W U M ∧ RflOk l gone s t W U k (s, 0))
    (fun k => l.length + 1 - k)
    (fun e ws g => e = .ret ∧ h2.nx ≤ g.nx ∧ (∀ b, b < h1.nx → g.blk b = h1.blk b) ∧ ∃ k : Nat, ws = [iv k, iv k] ∧ k = mcP l s t gone)
    (fun k ws g hI => by
      obtain ⟨hn, hf, ⟨x, rfl⟩, W, U, M, hF, f⟩ := hI
      have hk := ref_small v hst f
      have hF1 : FbH (g.set h1.nx (.row (rowF n sl gone W U (fun _ => false)) 96 true)) h1.nx n sl gone W U (fun _ => false) := blk_set_self _ _ _
      have slg : SlR g 59 3 sl (l.map Kl.cells) := slR_keep hs (by omega) fun b hb => by rw [hf b (by have := slR_bel hs hb; omega), x1.blk b (slR_bel hs hb)]
      have start : ∀ (r : Bool) (h' : H), rn 87 #[pt h1.nx 0, iv s, iv (0 : Nat), iv t] (g.set h1.nx (.row (rowF n sl gone W U (fun _ => false)) 96 true)) = some (.bool r, h') → f51_l1 rn 1000 s t h1 [x, iv k] g = if r then some (.normal, [x, iv (k + 1 : Nat)], h') else some (.ret, [iv k, iv k], h') := by
        intro r h' hc
        unfold f51_l1
        rw [bld_some bld94]
        simp only [nx_eq, gv, List.getD_cons_zero, List.getD_cons_succ, asI_int]
        rw [st94 hF]
        refine (calls_eq (xs := [_, _, _, _]) hc).trans ?_
        rw [asB_bool]
        cases r with
        | true => rw [Bool.not_true, ifB_false, add64 (by omega) (by omega)]; rfl
        | false => rw [Bool.not_false, ifB_true]; rfl
      obtain ⟨r, h', c87, n3, b3, W', U', M', hF', r1, r2⟩ := find_all v hgone (unmet fun _ => false) (g.set h1.nx (.row (rowF n sl gone W U (fun _ => false)) 96 true)) h1.nx s 0 k W U (fun _ => false) (Nat.le_refl _) (by rw [nx_set]; omega) hF1 (slR_keep slg (by rw [nx_set]; exact Nat.le_refl _) fun b hb => blk_set_ne _ _ _ (hslb b hb)) hslb (by omega) (by omega) f (by omega)
      rw [nx_set] at n3 b3
      have st := start r h' c87
      have fr : ∀ b, b < h1.nx → h'.blk b = h1.blk b := fun b hb => by rw [b3 b (by omega) (by omega), blk_set_ne _ _ _ (by omega), hf b hb]
      cases r with
      | true =>
        refine ⟨.normal, _, h', st, .inl ⟨rfl, k + 1, ⟨by omega, fr, ⟨x, rfl⟩, W', U', M', hF', r1 rfl⟩, by omega⟩⟩
      | false =>
        obtain ⟨rfl, rfl, ex, hmet, _⟩ := r2 rfl
        refine ⟨.ret, _, h', st, .inr ⟨by simp, rfl, by omega, fr, k, rfl, ?_⟩⟩
        refine ref_ge v f (by omega) (by omega) (R := fun p x => decide (x ≤ 31) && M' (32 * p + x)) (by simpa using hmet) (fun x => ?_) (fun p x hp hx hr u hu => ?_)
        · simp only [Bool.and_eq_false_iff, decide_eq_false_iff_not]
          by_cases h31 : x ≤ 31
          · right
            rw [Bool.eq_false_iff]
            intro hM
            exact (ex.cl t x (by have := v.n7; omega) h31 hM rfl).1 rfl
          · exact .inl h31
        · simp only [Bool.and_eq_true, decide_eq_true_eq] at hr ⊢
          refine ⟨?_, (ex.cl p x hp hx hr.2 rfl).2 u hu⟩
          rcases hu with ⟨h1, rfl⟩ | ⟨y, h1, rfl, _⟩ | ⟨i, c, kk, hc, _, _, h4⟩
          · simp only at h1 ⊢; omega
          · simp only at h1 ⊢; omega
          · obtain ⟨_, _, _, o4, o5⟩ := okC_iff.1 (v.ok c (List.mem_of_getElem? hc))
            rcases h4 with ⟨_, _, rfl⟩ | ⟨_, _, rfl⟩ <;> simp only <;> omega) 1000 0 [iv 0, iv 0] h2 (by omega) ⟨Nat.le_refl _, fun b hb => x2.blk b hb, ⟨_, rfl⟩, _, _, _, hF2, ref0⟩
  refine p51 (k := 1000) (h1 := g) ?_ rfl ⟨by omega, fun b hb => by rw [m2 b (by omega), x1.blk b hb]⟩
  unfold f51
  rw [bx_eq]
  simp only [Value.cells, nx_eq]
  rw [e1, d24, rd_all (n := 2) b1 rfl, Option.bind_some]
  refine (bld_some (bld96 n sl gone)).trans ?_
  rw [bx_eq]
  simp only [Value.cells]
  rw [e2]
  have q1' : lpGo (f51_l1 rn 1000 s t h1) 1000 [.int .i64 0, .int .i64 0] h2 = _ := q1
  rw [lp_eq q1', onR_ret, m3]
  rfl
theorem s52 {s t : Int} {h : H} (hs : SlR h 59 3 sl (l.map Kl.cells)) (hp : pairP n l s t = true) :
    ∃ v h', rn 52 #[.agg #[iv n, sl], iv s, iv t] h = some (v, h') ∧ Ext h h' ∧ SlR h' 3 1 v (cellsI (cutP l s t)) := by
  obtain ⟨hv, hsn, htn, hst⟩ := pairP_parts hp
  have hl24 := (validP_ok hv).2.2.1
  generalize e1 : h.new (.row [iv n, sl] 24 true) = h1
  have n1 : h1.nx = h.nx + 1 := by rw [← e1]; rfl
  have x1 : Ext h h1 := by rw [← e1]; exact .new _ _
  have b1 : h1.blk h.nx = some (.row [iv n, sl] 24 true) := by rw [← e1, blk_new_self]
  have c0 := s51 (gone := 0) (hs.ext x1) hp (by decide)
  obtain ⟨ws', g, q1, hx, hlen, hg, hm, v, ha, rfl⟩ := lp_for (k := 1000) (l := l) (F := f52_l1 rn 1000 s t h l.length) (cutG l s t)
    (fun i z ws g => Ext h1 g ∧ z.1.length ≤ i ∧ z.2.1 < 2 ^ i ∧ z.2.2 = mcP l s t z.2.1 ∧ ∃ v, AqR h1.nx g 3 1 v (cellsI z.1) ∧ ws = [v, iv z.2.1, iv z.2.2, iv i]) 0
    (ws := [.slice none 0 0, iv 0, iv (mcP l s t 0), iv 0]) (h := h1) (s0 := ([], 0, mcP l s t 0))
    ⟨.refl _, Nat.le_refl _, Nat.zero_lt_one, rfl, _, .nil, rfl⟩ (by omega)
    (fun z ws g hI => by
      obtain ⟨hx, hlen, hg, hm, v, ha, rfl⟩ := hI
      unfold f52_l1
      simp only [gv, List.getD_cons_zero, List.getD_cons_succ, asI_int]
      rw [lt_f (by omega), ifB_false]; rfl)
    (fun i c z ws g hc hI => by
      obtain ⟨hx, hlen, hg, hm, v, ha, rfl⟩ := hI
      have hi := (List.getElem?_eq_some_iff.1 hc).1
      have hgo := cutG_ok (l := l) (s := s) (t := t) (c := c) hlen hg hm
      have p1 : (2 : Nat) ^ i < 2 ^ 24 := Nat.pow_lt_pow_right (by decide) (by omega)
      have hor : z.2.1 ||| 2 ^ i < 2 ^ 24 := Nat.or_lt_two_pow (by omega) p1
      have bg : g.blk h.nx = some (.row [iv n, sl] 24 true) := by rw [hx.blk _ (by omega), b1]
      have c6 := s51 (gone := z.2.1 ||| 2 ^ i) (hs.ext (x1.trans hx)) hp (by omega)
      have hm6 := mcP_le (l := l) hst (z.2.1 ||| 2 ^ i)
      have hm0 := mcP_le (l := l) hst z.2.1
      have hone := mc_one (l := l) hst (by omega) z.2.1 i
      have hadd : add .i64 (i : Int) 1 = ((i + 1 : Nat) : Int) := by rw [add64 (by omega) (by omega)]; omega
      have start : f52_l1 rn 1000 s t h l.length [v, iv z.2.1, iv z.2.2, iv i] g = (if mcP l s t (z.2.1 ||| 2 ^ i) < z.2.2 then
          bls Try.prog g 25 1 [(0, iv i)] fun v13 h7 => app Try.prog h7 25 25 v v13 fun v14 h8 => some (.normal, [v14, iv (z.2.1 ||| 2 ^ i : Nat), iv ((z.2.2 : Int) - 1), iv (i + 1 : Nat)], h8)
          else some (.normal, [v, iv z.2.1, iv z.2.2, iv (i + 1 : Nat)], g)) := by
        unfold f52_l1
        simp only [gv, List.getD_cons_zero, List.getD_cons_succ, asI_int, asK_int]
        rw [lt_t (by omega), ifB_true]
        by_cases hz : 0 < z.2.2
        · rw [lt_t (by omega), ifB_true]
          simp only [nx_eq, d24]
          rw [rd_all (n := 2) bg rfl, Option.bind_some, nn_ge (by omega), shl1_nat (by omega), or_nat (by omega) (by omega)]
          refine (calls_eq (xs := [_, _, _, _]) c6).trans ?_
          rw [asI_int, sub64 (by omega) (by omega), hadd]
          by_cases hlt : mcP l s t (z.2.1 ||| 2 ^ i) < z.2.2
          · rw [eq_t (by omega), ifB_true, if_pos hlt]
            simp only [nn_ge (show (0 : Int) ≤ (i : Int) by omega)]
            rfl
          · rw [eq_f (by omega), ifB_false, if_neg hlt]
            rfl
        · rw [lt_f (by omega), ifB_false, hadd, if_neg (by omega)]
          rfl
      rw [start]
      by_cases hlt : mcP l s t (z.2.1 ||| 2 ^ i) < z.2.2
      · rw [if_pos hlt]
        obtain ⟨v', h9, e9, a9, n9, k9, b9, hb9, hb9'⟩ := ha.push app25 app25 (bls25 (i : Int)) rfl rfl (by simp; omega) hx.nx
        refine ⟨_, h9, e9 _, ⟨by have := hx.nx; omega, fun q hq => ?_⟩, hgo.1, hgo.2.1, hgo.2.2, v', ?_, ?_⟩
        · rw [k9 q (by have := hx.nx; omega) (fun e => by have := (ha.blkOf e).1; omega), hx.blk _ hq]
        · simp only [cutG, if_pos hlt]
          simpa using a9
        · simp only [cutG, if_pos hlt]
          rw [show ((z.2.2 : Int) - 1) = ((mcP l s t (z.2.1 ||| 2 ^ i) : Nat) : Int) by omega]
      · rw [if_neg hlt]
        refine ⟨_, g, rfl, hx, hgo.1, hgo.2.1, hgo.2.2, v, ?_, ?_⟩
        · simp only [cutG, if_neg hlt]; exact ha
        · simp only [cutG, if_neg hlt])
  refine ⟨v, g, x52 (k := 1000) ?_ (by obtain ⟨x, y, z, hz⟩ := ha.isSl; rw [hz]; rfl), x1.trans hx, ha.slR⟩
  unfold f52
  rw [bx_eq]
  simp only [nx_eq, d24, d22, Value.cells]
  rw [e1, rd_all (n := 2) b1 rfl, Option.bind_some]
  refine (calls_eq (xs := [_, _, _, _]) c0).trans ?_
  rw [asI_int, cell_of b1, show off 0 1 = 1 from rfl]
  simp only [List.getElem?_cons_succ, List.getElem?_cons_zero, Option.bind_some]
  rw [(hs.ext x1).len, List.length_map, lp_eq q1, onE_exit, if_pos rfl]
  rfl
end
end Go.AM
end

section
namespace Go.AM
open Go.Proofs
noncomputable def f9 (rec : Rec) (_k : Nat) (v0 : Value) (n0 : Int) (n1 : Int) (h0 : H) : Option (Value × H) :=
 bx h0 24 v0 fun h1 =>
 ld Try.prog h1 24 (nx h0) 0 fun v1 =>
 calls rec h1 18 [v1] fun v2 h2 =>
 calls rec h2 48 [v2, (.int .i64 n0), (.int .i64 n1)] fun v3 h3 =>
 ext v3 0 fun v4 =>
 ext v3 1 fun v5 =>
 asI .i64 v5 fun n2 =>
 ld Try.prog h3 24 (nx h0) 0 fun v6 =>
 calls rec h3 18 [v6] fun v7 h4 =>
 calls rec h4 49 [v7, (.int .i64 n0), (.int .i64 n1)] fun v8 h5 =>
 ext v8 0 fun v9 =>
 ext v8 1 fun v10 =>
 asI .i64 v10 fun n3 =>
 ld Try.prog h5 24 (nx h0) 0 fun v11 =>
 calls rec h5 21 [v11, (.int .i64 n0), (.int .i64 n1)] fun v12 h6 =>
 asB v12 fun q0 =>
 ifB (not q0) (
 len v4 fun n4 =>
 len v9 fun n5 =>
 ifB (eq (add .i64 n4 n5) 0) (
 ifB (eq n2 2) (
 ifB (eq n3 2) (
 calls rec h6 22 [] fun v13 h7 =>
 asB v13 fun q1 =>
 some ((.bool q1), h7)) (
 some ((.bool false), h6))) (
 some ((.bool false), h6))) (
 some ((.bool false), h6))) (
 ld Try.prog h6 24 (nx h0) 0 fun v14 =>
 calls rec h6 50 [v14, (.int .i64 n0), (.int .i64 n1), v4] fun v15 h8 =>
 asB v15 fun q2 =>
 ifB q2 (
 len v4 fun n6 =>
 ld Try.prog h8 24 (nx h0) 0 fun v16 =>
 calls rec h8 51 [v16, (.int .i64 n0), (.int .i64 n1), (.int .i64 0)] fun v17 h9 =>
 asI .i64 v17 fun n7 =>
 ifB (eq n6 n7) (
 ifB (eq n2 0) (
 ld Try.prog h9 24 (nx h0) 0 fun v18 =>
 calls rec h9 52 [v18, (.int .i64 n0), (.int .i64 n1)] fun v19 h10 =>
 calls rec h10 26 [v9, v19] fun v20 h11 =>
 asB v20 fun q3 =>
 ifB q3 (
 ifB (eq n3 0) (
 calls rec h11 22 [] fun v21 h12 =>
 asB v21 fun q4 =>
 some ((.bool q4), h12)) (
 some ((.bool false), h11))) (
 some ((.bool false), h11))) (
 some ((.bool false), h9))) (
 some ((.bool false), h9))) (
 some ((.bool false), h8)))
theorem e9 (rec : Rec) (k : Nat) (v0 : Value) (n0 : Int) (n1 : Int) (h : H) : bodyT Try.prog E0 SC (XC Try.prog rec k) 9 (Value × H) [.opq v0, .int .i64 n0, .int .i64 n1] h (fun v h => some (v, h)) = f9 rec k v0 n0 n1 h := by kernel_rfl
theorem t9 {k : Nat} {v0 : Value} {n0 : Int} {n1 : Int} {h h1 : H} {v : Value} (hh : f9 rn k v0 n0 n1 h = some (v, h1)) : rn 9 #[v0, .int .i64 n0, .int .i64 n1] h = some (v, trunc Try.prog h h1 v) :=
  run_of_bodyT (args := [.opq v0, .int .i64 n0, .int .i64 n1]) rfl ((e9 _ _ _ _ _ _).trans hh)
end Go.AM
end

section
namespace Go.AM
open Go.Proofs
section
variable {l : List Kl} {sl : Value}
/-- A way in time is one for the document too. -/
theorem s29t {n s t : Int} {v1 : Value} {w : List Int} {h : H} (hs : SlR h 59 3 sl (l.map Kl.cells)) (hp : pairP n l s t = true) (hw : SlR h 3 1 v1 (cellsI w)) (hway : w ∈ allWays l s t) : rn 29 #[.agg #[iv n, sl], iv s, iv t, v1] h = some (.bool true, h) := by
  have hp' := hp
  unfold pairP at hp'
  simp only [Bool.and_eq_true, decide_eq_true_eq, Bool.not_eq_true', beq_eq_false_iff_ne] at hp'
  obtain ⟨⟨⟨hv, hsn⟩, htn⟩, hst⟩ := hp'
  obtain ⟨hn1, hn7, l24, hokc⟩ := validP_ok hv
  have hck := (mem_all hv hst w).1 hway
  have hokw := allWays_ok w hway
  have hwl3 := hokw.2.1
  have x1 : Ext h (h.new (.row [iv n, sl] 24 true)) := .new _ _
  have b1 : (h.new (.row [iv n, sl] 24 true)).blk h.nx = some (.row [iv n, sl] 24 true) := blk_new_self _ _
  have n1 : h.nx < (h.new (.row [iv n, sl] 24 true)).nx := Nat.lt_succ_self _
  have hs1 := hs.ext x1
  have hw1 := hw.ext x1
  generalize e1 : h.new (.row [iv n, sl] 24 true) = h1 at *
  obtain ⟨ws', g, q1, m1, m2, r, rfl⟩ := lp_for (k := 1000) (l := w) (F := f29_l1 rn 1000 t v1 h w.length) (σ := Int × Int × Int) (fun _ x st => (stepP l t st x).getD st)
    (fun i st ws g => Ext h1 g ∧ (goW l t (w.drop i) st = true ∧ 0 ≤ st.1 ∧ st.1 < n) ∧ ∃ r, ws = [r, iv st.1, iv st.2.1, iv st.2.2, iv i]) 0 (ws := [.bool false, iv s, iv 0, iv (shl .i64 1 s), iv 0]) (h := h1) (s0 := (s, 0, shl .i64 1 s))
    ⟨.refl _, ⟨by simpa [checkP] using hck, hsn⟩, _, rfl⟩ hokw.2.1
    (fun st ws g hI => by
      obtain ⟨_, _, r, rfl⟩ := hI
      unfold f29_l1
      simp only [gv, List.getD_cons_zero, List.getD_cons_succ, asI_int]
      rw [lt_f (by omega), ifB_false]; rfl)
    (fun i x st ws g hx hI => by
      obtain ⟨xg, ⟨hg, hp0, hpn⟩, r, rfl⟩ := hI
      have hi := (List.getElem?_eq_some_iff.1 hx).1
      have hd : w.drop i = x :: w.drop (i + 1) := by
        obtain ⟨h1, h2⟩ := List.getElem?_eq_some_iff.1 hx
        rw [← h2]; exact List.drop_eq_getElem_cons h1
      rw [hd] at hg
      simp only [goW] at hg
      cases hst : stepP l t st x with
      | none => rw [hst] at hg; cases hg
      | some st' =>
        rw [hst] at hg
        simp only at hg
        have hst0 := hst
        unfold stepP at hst
        split at hst
        · cases hst
        · rename_i hb
          simp only [not_or, Int.not_lt, Int.not_le] at hb
          split at hst
          · cases hst
          · rename_i c hc
            split at hst
            · rename_i hgo
              simp only [Option.some.injEq] at hst
              have hok := hokc _ _ hc
              obtain ⟨o1, o2, o3, o4, o5⟩ := okC_iff.1 hok
              simp only [goes, Bool.and_eq_true, Bool.not_eq_true', decide_eq_false_iff_not, Int.not_le] at hgo
              obtain ⟨⟨g1, g2⟩, g3⟩ := hgo
              obtain ⟨p0, p1, p2⟩ := oth_ok hok g2
              have y7 := (Ext.refl g).fresh 59 [iv 0, iv 0, iv 0] c.cells
              have hcb := blk_fresh g 59 [iv 0, iv 0, iv 0] c.cells
              have bg : g.blk h.nx = some (.row [iv n, sl] 24 true) := (xg.blk _ n1).trans b1
              have slg := hs1.ext xg
              have hadd : add .i64 (i : Int) 1 = ((i + 1 : Nat) : Int) := by rw [add64 (by omega) (by omega)]; omega
              have hoth : sub .i64 (add .i64 c.a c.b) st.1 = c.oth st.1 := by
                unfold Kl.oth
                rw [add64 (by omega) (by omega), sub64 (by omega) (by omega)]
              have hin : ifB (R := Ex × List Value × H) (eq (and .i64 (shr .i64 st.2.2 (c.oth st.1)) 1) 1) = fun (_ y : Option (Ex × List Value × H)) => y := by
                have : eq (and .i64 (shr .i64 st.2.2 (c.oth st.1)) 1) 1 = false := by
                  unfold inP at g3
                  simpa [eq] using g3
                rw [this]; rfl
              refine ⟨[r, iv st'.1, iv st'.2.1, iv st'.2.2, iv (i + 1 : Nat)], g.fresh 59 [iv 0, iv 0, iv 0] c.cells, ?_, xg.trans y7, ?_, r, ?_⟩
              · unfold f29_l1
                simp only [gv, List.getD_cons_zero, List.getD_cons_succ, asI_int, asK_int]
                rw [lt_t (by omega), ifB_true]
                simp only [d3, d22]
                rw [(hw1.ext xg).c0 (by omega) (x := [iv x]) (by rw [Int.toNat_natCast, List.getElem?_map, hx]; rfl) rfl, asI_int, lt_f (by omega), ifB_false, nx_eq, cell_of bg, show ([iv n, sl] : List Value)[off 0 1]? = some sl from rfl, Option.bind_some, slg.len, List.length_map]
                rw [show le (l.length : Int) x = false by simp [le]; omega, ifB_false, eq_f hb.2.2, ifB_false, Option.bind_some, slg.ldA ag59 sz59 hb.1 (x := c.cells) (by simp [hc]), al_st (zs := [iv 0, iv 0, iv 0]) (xs := c.cells) sz59 rfl rfl]
                simp only [nx_eq]
                generalize g.fresh 59 [iv 0, iv 0, iv 0] c.cells = h7 at *
                rw [cell_of hcb, cell_of hcb, cell_of hcb]
                simp only [Kl.cells, off, List.getElem?_cons_zero, List.getElem?_cons_succ, Option.bind_some, asI_int]
                have hle : le c.t st.2.1 = false := by simp [le]; omega
                simp only [hoth, nn_ge p0]
                rw [hin, hle, ← hst]
                by_cases ha : c.a = st.1
                · rw [eq_t ha, Bool.not_true, ifB_false, ifB_false, hadd]
                  rfl
                · have hb' : c.b = st.1 := by
                    unfold Kl.has at g2
                    simp only [Bool.or_eq_true, beq_iff_eq] at g2
                    exact g2.resolve_left ha
                  rw [eq_f ha, Bool.not_false, ifB_true, eq_t hb', Bool.not_true, ifB_false, ifB_false, hadd]
                  rfl
              · simp only [hst0, Option.getD_some]
                exact ⟨hg, by rw [← hst]; exact ⟨p0, p1⟩⟩
              · simp only [hst0, Option.getD_some]
            · cases hst)
  obtain ⟨hgo, _, _⟩ := m2
  rw [List.drop_length] at hgo
  generalize foldI (fun _ x st => (stepP l t st x).getD st) w 0 (s, 0, shl .i64 1 s) = st at *
  have hend : st.1 = t := by simpa [goW] using hgo
  refine p29 (k := 1000) (h1 := g) ?_ rfl (x1.trans m1)
  unfold f29
  have q1' : lpGo (f29_l1 rn 1000 t v1 h w.length) 1000 [.bool false, .int .i64 s, .int .i64 0, .int .i64 (shl .i64 1 s), .int .i64 0] h1 = _ := q1
  rw [bx_eq]
  simp only [Value.cells]
  rw [e1, nn_ge hsn.1, hw.len, List.length_map, lp_eq q1', onE_exit, if_pos rfl]
  simp only [gv, List.getD_cons_zero, List.getD_cons_succ, asI_int]
  have hwl : 0 < w.length := List.length_pos_iff.2 hokw.1
  rw [eq_t hend, ifB_true, hw.len, List.length_map, lt_t (by omega)]
theorem maskN_append (M w : List Int) : maskN (M ++ w) = w.foldl (fun a i => a ||| 2 ^ i.toNat) (maskN M) := by
  unfold maskN
  rw [List.foldl_append]
theorem l502 {k : Nat} {wv r : Value} {w M : List Int} {g : H} (hw : SlR g 3 1 wv (cellsI w)) (hr : ∀ x ∈ M ++ w, 0 ≤ x ∧ x < 24) (hnd : (M ++ w).Nodup) (hk : w.length < k) (hlen : w.length < 1000) :
    lpGo (f50_l2 rn k wv w.length) k [r, iv (maskN M), iv 0] g = some (.exit 2, [r, iv (maskN (M ++ w)), iv w.length], g) := by
  obtain ⟨ws', g', q1, rfl, rfl⟩ := lp_for (k := k) (l := w) (F := f50_l2 rn k wv w.length) (σ := Unit) (fun _ _ s => s)
    (fun i _ ws g' => g' = g ∧ ws = [r, iv (maskN (M ++ w.take i)), iv i]) 2 (ws := [r, iv (maskN M), iv 0]) (h := g) (s0 := ()) ⟨rfl, by simp⟩ hk
    (fun _ ws g' hI => by
      obtain ⟨rfl, rfl⟩ := hI
      unfold f50_l2
      simp only [gv, List.getD_cons_zero, List.getD_cons_succ, asI_int]
      rw [lt_f (by omega), ifB_false]; rfl)
    (fun i x _ ws g' hx hI => by
      obtain ⟨rfl, rfl⟩ := hI
      have hi := (List.getElem?_eq_some_iff.1 hx).1
      have hxm : x ∈ M ++ w := List.mem_append_right _ (List.mem_of_getElem? hx)
      obtain ⟨x0, x24⟩ := hr x hxm
      obtain ⟨m, rfl⟩ := Int.eq_ofNat_of_zero_le x0
      have htake : w.take (i + 1) = w.take i ++ [(m : Int)] := by rw [List.take_add_one, hx]; rfl
      have hsub : ∀ y ∈ M ++ w.take i, y ∈ M ++ w := fun y hy => by
        rcases List.mem_append.1 hy with h | h
        · exact List.mem_append_left _ h
        · exact List.mem_append_right _ (List.mem_of_mem_take h)
      have hlt : maskN (M ++ w.take i) < 2 ^ 24 := maskN_lt fun y hy => by have := hr y (hsub y hy); omega
      have hfresh : (maskN (M ++ w.take i)).testBit m = false := by
        rw [Bool.eq_false_iff]
        intro hb
        obtain ⟨y, hy, e⟩ := (maskN_bit _ _).1 hb
        have hy0 := (hr y (hsub y hy)).1
        have e2 : y = (m : Int) := by omega
        subst e2
        have esp : M ++ w = (M ++ w.take i) ++ ((m : Int) :: w.drop (i + 1)) := by
          rw [List.append_assoc]
          congr 1
          obtain ⟨h1, h2⟩ := List.getElem?_eq_some_iff.1 hx
          rw [← h2, ← List.drop_eq_getElem_cons h1, List.take_append_drop]
        rw [esp, List.nodup_append] at hnd
        exact hnd.2.2 _ hy _ List.mem_cons_self rfl
      have p : (2 : Nat) ^ m < 2 ^ 24 := Nat.pow_lt_pow_right (by decide) (by omega)
      refine ⟨[r, iv (maskN (M ++ w.take (i + 1))), iv (i + 1 : Nat)], g', ?_, rfl, rfl⟩
      unfold f50_l2
      simp only [gv, List.getD_cons_zero, List.getD_cons_succ, asI_int, asK_int]
      rw [lt_t (by omega), ifB_true]
      simp only [d3]
      rw [hw.c0 (by omega) (x := [iv (m : Int)]) (by rw [Int.toNat_natCast, List.getElem?_map, hx]; rfl) rfl, asI_int]
      simp only [nn_ge (show (0 : Int) ≤ (m : Int) by omega)]
      rw [bit_nat (by omega) (by omega), hfresh, if_neg (by simp), eq_f (by decide), ifB_false, shl1_nat (by omega), or_nat (by omega) (by omega), add64 (by omega) (by omega), htake, ← List.append_assoc, maskN_append (M ++ w.take i)]
      simp [out])
  rw [q1, List.take_length]
theorem s50 {n : Nat} {s t : Int} {v4 : Value} {vs : List Value} {W : List (List Int)} {h : H} (hs : SlR h 59 3 sl (l.map Kl.cells)) (hp : pairP n l s t = true) (h4 : SlR h 25 1 v4 (cellsV vs)) (hss : SsR h vs W) (ap : AprR l s t W) : rn 50 #[.agg #[iv n, sl], iv s, iv t, v4] h = some (.bool true, h) := by
  obtain ⟨hv, hsn, htn, hst⟩ := pairP_parts hp
  have v := vp_iff.1 hv
  have l24 := v.len
  have x1 : Ext h (h.new (.row [iv n, sl] 24 true)) := .new _ _
  have b1 : (h.new (.row [iv n, sl] 24 true)).blk h.nx = some (.row [iv n, sl] 24 true) := blk_new_self _ _
  generalize e1 : h.new (.row [iv n, sl] 24 true) = h1 at *
  have hWl : W.length ≤ 24 := by have := mcP_le (l := l) hst 0; have := ap.len; omega
  have fl : W.flatten.Nodup := by
    rw [List.nodup_iff_pairwise_ne, List.pairwise_flatten]
    exact ⟨fun w hw => List.nodup_iff_pairwise_ne.1 (way_nodup v hsn hst (ap.ways w hw)), ap.dis.imp fun h i hi j hj e => h i hi (by rw [e]; exact hj)⟩
  have frng : ∀ x ∈ W.flatten, 0 ≤ x ∧ x < 24 := fun x hx => by
    obtain ⟨w, hw, hx⟩ := List.mem_flatten.1 hx
    have := (allWays_ok w (ap.ways w hw)).2.2 x hx
    omega
  obtain ⟨ws', g, q1, rfl, r, rfl⟩ := lp_for (k := 1000) (l := W) (F := f50_l1 rn 1000 s t v4 h W.length) (σ := Unit) (fun _ _ s => s)
    (fun i _ ws g => g = h1 ∧ ∃ r, ws = [r, iv (maskN (W.take i).flatten), iv i]) 0 (ws := [.bool false, iv 0, iv 0]) (h := h1) (s0 := ())
    ⟨rfl, .bool false, by simp [maskN]⟩ (by omega)
    (fun _ ws g hI => by
      obtain ⟨_, r, rfl⟩ := hI
      unfold f50_l1
      simp only [gv, List.getD_cons_zero, List.getD_cons_succ, asI_int]
      rw [lt_f (by omega), ifB_false]; rfl)
    (fun i w _ ws g hw hI => by
      obtain ⟨rfl, r, rfl⟩ := hI
      have hi := (List.getElem?_eq_some_iff.1 hw).1
      have hwm := List.mem_of_getElem? hw
      have hvl : i < vs.length := by rw [hss.1]; exact hi
      have hvi : vs[i]? = some vs[i] := List.getElem?_eq_getElem hvl
      have sw := hss.2 i _ w hvi hw
      generalize vs[i] = wv at hvi sw
      have sw1 := sw.ext x1
      have c29 := s29t (hs.ext x1) hp sw1 (ap.ways w hwm)
      have hwk := (allWays_ok w (ap.ways w hwm)).2.1
      have hsplit : W.flatten = ((W.take i).flatten ++ w) ++ (W.drop (i + 1)).flatten := by
        obtain ⟨h1, h2⟩ := List.getElem?_eq_some_iff.1 hw
        rw [List.append_assoc, ← List.flatten_cons, ← h2, ← List.drop_eq_getElem_cons h1, ← List.flatten_append, List.take_append_drop]
      have hnd : ((W.take i).flatten ++ w).Nodup := by rw [hsplit] at fl; exact (List.nodup_append.1 fl).1
      have q2 := l502 (k := 1000) (r := r) (M := (W.take i).flatten) sw1 (fun x hx => frng x (by rw [hsplit]; exact List.mem_append_left _ hx)) hnd hwk hwk
      refine ⟨[r, iv (maskN (W.take (i + 1)).flatten), iv (i + 1 : Nat)], g, ?_, rfl, r, rfl⟩
      unfold f50_l1
      simp only [gv, List.getD_cons_zero, List.getD_cons_succ, asI_int, asK_int]
      rw [lt_t (by omega), ifB_true]
      simp only [d25]
      rw [(h4.ext x1).c0 (by omega) (x := [wv]) (by rw [Int.toNat_natCast, List.getElem?_map, hvi]; rfl) rfl, d24, nx_eq, rd_all (n := 2) b1 rfl, Option.bind_some]
      refine (calls_eq (xs := [_, _, _, _]) c29).trans ?_
      rw [asB_bool, Bool.not_true, ifB_false, sw1.len, List.length_map]
      refine (lp_eq q2).trans ?_
      rw [onE_exit, if_pos rfl, add64 (by omega) (by omega), List.take_add_one, hw, List.flatten_append]
      simp [gv, out])
  refine p50 (k := 1000) (h1 := g) ?_ rfl x1
  unfold f50
  have ln : ∀ {T : Type} (K : Int → Option T), len v4 K = K (W.length : Int) := fun K => by rw [h4.len]; simp [hss.1]
  have q1' : lpGo (f50_l1 rn 1000 s t v4 h W.length) 1000 [.bool false, .int .i64 0, .int .i64 0] g = _ := q1
  rw [bx_eq]
  simp only [Value.cells]
  rw [e1, ln, lp_eq q1', onE_exit, if_pos rfl]
theorem s9 {n s t : Int} {h : H} (hs : SlR h 59 3 sl (l.map Kl.cells)) : ∃ h', rn 9 #[.agg #[iv n, sl], iv s, iv t] h = some (.bool true, h') := by
  have x1 : Ext h (h.new (.row [iv n, sl] 24 true)) := .new _ _
  have b1 : (h.new (.row [iv n, sl] 24 true)).blk h.nx = some (.row [iv n, sl] 24 true) := blk_new_self _ _
  have n1 : h.nx < (h.new (.row [iv n, sl] 24 true)).nx := Nat.lt_succ_self _
  have start : ∃ h1, f9 rn 1000 (.agg #[iv n, sl]) s t h = some (.bool true, h1) := by
    unfold f9
    rw [bx_eq, nx_eq, show (Value.agg #[iv n, sl]).cells.toList = [iv n, sl] from rfl]
    generalize h.new (.row [iv n, sl] 24 true) = h1 at *
    have ld1 : ∀ (g : H), Ext h1 g → ∀ (K : Value → Option (Value × H)), ld Try.prog g 24 h.nx 0 K = K (.agg #[iv n, sl]) := fun g x K => by
      rw [d24, rd_all (n := 2) ((x.blk _ n1).trans b1) rfl]; rfl
    obtain ⟨la, h2, e2, x2, s2⟩ := s18 (n := n) (hs.ext x1)
    rw [ld1 _ (.refl _), calls_eq (xs := [_]) e2]
    cases hp : pairP n l s t with
    | false =>
      have hp' : pairP n (l.take 26) s t = false := by rw [pairP_take]; exact hp
      obtain ⟨h3, e3, x3⟩ := s48_bad s2 hp'
      rw [calls_eq (xs := [_, _, _]) e3, ext20, ext21, asI_int]
      have x13 := x2.trans x3
      rw [ld1 _ x13]
      obtain ⟨lb, h4, e4, x4, s4⟩ := s18 (n := n) (hs.ext (x1.trans x13))
      rw [calls_eq (xs := [_]) e4]
      obtain ⟨h5, e5, x5⟩ := s49_bad s4 hp'
      have x15 := (x13.trans x4).trans x5
      rw [calls_eq (xs := [_, _, _]) e5, ext20, ext21, asI_int, ld1 _ x15, calls_eq (xs := [_, _, _]) (s21 (hs.ext (x1.trans x15))), asB_bool, hp, Bool.not_false, ifB_true, len_slice, len_slice, show eq (add .i64 ((0 : Nat) : Int) ((0 : Nat) : Int)) 0 = true from by decide, ifB_true, eq_t rfl, ifB_true, ifB_true, k22]
      exact ⟨_, rfl⟩
    | true =>
      obtain ⟨hv, hsn, htn, hst⟩ := pairP_parts hp
      obtain ⟨hn1, hn7, l24, _⟩ := validP_ok hv
      obtain ⟨m, rfl⟩ := Int.eq_ofNat_of_zero_le (show 0 ≤ n by omega)
      have hl : l.take 26 = l := List.take_of_length_le (by omega)
      rw [hl] at s2
      obtain ⟨v4, vs, W, h3, e3, x3, a4, ss, ap⟩ := s48 s2 hp
      rw [calls_eq (xs := [_, _, _]) e3, ext20, ext21, asI_int]
      have x13 := x2.trans x3
      rw [ld1 _ x13]
      obtain ⟨lb, h4, e4, x4, s4⟩ := s18 (n := (m : Int)) (hs.ext (x1.trans x13))
      rw [calls_eq (xs := [_]) e4]
      rw [hl] at s4
      obtain ⟨v9, h5, e5, x5, a9⟩ := s49 s4 hp
      have x35 := x4.trans x5
      have x15 := x13.trans x35
      have sl5 := hs.ext (x1.trans x15)
      have hss5 := ss.keep x35.nx fun v hv b hb => x35.blk b (ss.bel hv hb)
      have lv4 : ∀ {T : Type} (K : Int → Option T), len v4 K = K (mcP l s t 0 : Int) := fun K => by rw [a4.len]; simp [ss.1, ap.len]
      rw [calls_eq (xs := [_, _, _]) e5, ext20, ext21, asI_int, ld1 _ x15, calls_eq (xs := [_, _, _]) (s21 sl5), asB_bool, hp, Bool.not_true, ifB_false, ld1 _ x15, calls_eq (xs := [_, _, _, _]) (s50 sl5 hp (a4.ext x35) hss5 ap), asB_bool, ifB_true, lv4, ld1 _ x15]
      obtain ⟨v19, h10, e19, x19, a19⟩ := s52 sl5 hp
      refine ⟨h10, (calls_eq (xs := [_, _, _, _]) (s51 (gone := 0) sl5 hp (by decide))).trans ?_⟩
      rw [asI_int, eq_t rfl, ifB_true, eq_t rfl, ifB_true, ld1 _ x15]
      refine (calls_eq (xs := [_, _, _]) e19).trans ?_
      rw [k26 (a9.ext x19) a19, decide_eq_true rfl, asB_bool, ifB_true, ifB_true, k22]
      rfl
  obtain ⟨h1, e⟩ := start
  exact ⟨_, t9 e⟩
end
end Go.AM
end

section
namespace Go.AM
open Go.Proofs Go.ChangeShapes
variable {HH : Type} {enc : TypeId × Value → HH} {w : World} {base : Nat} {held : Bool}
noncomputable def fields59 : Array Field := match Try.prog.underlying 59 with
  | some (.struct fs) => fs
  | _ => #[]
theorem under59 : Try.prog.underlying 59 = some (.struct fields59) := by kernel_rfl
theorem fields59_types : fields59.toList.map (fun f => (f.type, f.offset)) = [(3, 0), (3, 1), (3, 2)] := by kernel_rfl
theorem cellsOf3 : Try.prog.cellsOf 3 = 1 := by kernel_rfl
theorem cellsOf59 : Try.prog.cellsOf 59 = 3 := by kernel_rfl
theorem flat59 (n : Nat) (cs : List Value) (x : DataW HH × List MemPlace) (h : DataW.trod enc Try.prog w base (fun _ => true) held n 59 cs = some x) : ∃ c : Kl, cs = c.cells := by
  obtain ⟨a, b, t, e⟩ := trod_three under59 fields59_types (show Try.prog.underlying 3 = some (.int .i64) from by kernel_rfl) cellsOf3 cellsOf59 h
  exact ⟨⟨a, b, t⟩, e⟩
/-- Rows that are cells of calls are the cells of a list of calls. -/
theorem calls_of : ∀ (l : List (List Value)), (∀ x ∈ l, ∃ c : Kl, x = c.cells) → ∃ l' : List Kl, l = l'.map Kl.cells := by
  intro l
  induction l with
  | nil => intro _; exact ⟨[], rfl⟩
  | cons x l ih =>
    intro h
    obtain ⟨c, hc⟩ := h x (by simp)
    obtain ⟨l', hl⟩ := ih (fun y hy => h y (List.mem_cons_of_mem _ hy))
    exact ⟨c :: l', by rw [hc, hl]; rfl⟩
noncomputable def fields24 : Array Field := match Try.prog.underlying 24 with
  | some (.struct fs) => fs
  | _ => #[]
noncomputable def field24 (i : Nat) : Field := fields24[i]!
theorem under24s : Try.prog.underlying 24 = some (.struct fields24) := by kernel_rfl
theorem fields24_eq : fields24 = #[field24 0, field24 1] := by kernel_rfl
theorem field24_0 : ((field24 0).type, (field24 0).offset) = (3, 0) := by kernel_rfl
theorem field24_1 : ((field24 1).type, (field24 1).offset) = (22, 1) := by kernel_rfl
theorem under3 : Try.prog.underlying 3 = some (.int .i64) := by kernel_rfl
theorem under22L : Try.prog.underlying 22 = some (.slice 59) := by kernel_rfl
theorem cellsOf24 : Try.prog.cellsOf 24 = 2 := by kernel_rfl
theorem cellsOf22 : Try.prog.cellsOf 22 = 1 := by kernel_rfl
theorem bytes59 : Try.prog.bytesOf 59 = 24 := by kernel_rfl
theorem types24 : Try.prog.cellTypes Try.prog.depth 24 = some [3, 22] := by kernel_rfl
set_option maxRecDepth 100000 in
/-- A log that came in. -/
theorem open_log {rr : Reach} {b0 : Nat} {v : Value} {d : DataW HH} {ps : List MemPlace} (hv : Value.okWide Try.prog w rr b0 24 v) (hwt : ∀ x ∈ d.weights Try.prog 24, x ≤ reachBytes)
    (hd : DataW.Trod enc Try.prog w base (fun _ => true) held 24 v d ps) {ι : Nat → Emb} {h : H} (r : Rel Try.prog E0 ι h w) (hro : ∀ b k, h.blk b = some k → k.own = false) :
    ∃ (n : Int) (sl sl0 : Value) (ι' : Nat → Emb) (h' : H) (l : List Kl), v = .agg #[iv n, sl] ∧ (Lit.int .i64 n).wf = true ∧ Rel Try.prog E0 ι' h' w ∧ (∀ b k, h'.blk b = some k → k.own = false) ∧ Ext h h' ∧ (∀ b, b < h.nx → ι' b = ι b) ∧
      VR ι' h'.nx sl0 sl ∧ SlR h' 59 3 sl0 (l.map Kl.cells) := by
  obtain ⟨n, a, len, cap, d1, p1, rfl, hn, hw1, hhas, hd1⟩ := open_numslice under24s fields24_eq (Prod.mk.inj field24_0) (Prod.mk.inj field24_1) under3 under22L cellsOf24 cellsOf3 cellsOf22 types24 hv hwt hd
  obtain ⟨ι', h', v0, l, g1, g2, g3, g4, g5, g6, g7⟩ := open_flat r hro under22L sz59 cellsOf59 (by decide) (Q := fun x => ∃ c : Kl, x = c.cells) flat59 (by
    rintro cs ⟨c, rfl⟩
    exact ⟨rfl, fun v hv => by simp [Kl.cells] at hv; rcases hv with rfl | rfl | rfl <;> exact ⟨_, _, rfl⟩⟩) (by rw [bytes59]; exact Nat.succ_pos _) hw1 hhas hd1
  obtain ⟨l', rfl⟩ := calls_of l g7
  exact ⟨n, _, v0, ι', h', l', rfl, hn, g1, g2, g3, g4, g5, g6⟩
end Go.AM
end
