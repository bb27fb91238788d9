/- The staged forms of functions 89, 93, 109, 117, and what calls of these answer. -/
import Derived.Test.YtakhklelgcfgjaaDoorSx
namespace Go.AM
open Go.Proofs

noncomputable def f89 (rec : Rec) (_k : Nat) (v0 : Value) (h0 : H) : Option (Value × H) :=
  calls rec h0 106 [v0] fun v1 h1 =>
  asI .i64 v1 fun n0 =>
  some ((.int .i64 n0), h1)

theorem e89 (rec : Rec) (k : Nat) (v0 : Value) (h : H) : bodyT Tryd.prog E0 SC (XC Tryd.prog rec k) 89 (Value × H) [.opq v0] h (fun v h => some (v, h)) = f89 rec k v0 h := by kernel_rfl
theorem t89 {k : Nat} {v0 : Value} {h h1 : H} {v : Value} (hh : f89 rn k v0 h = some (v, h1)) : rn 89 #[v0] h = some (v, trunc Tryd.prog h h1 v) :=
  run_of_bodyT (args := [.opq v0]) rfl ((e89 _ _ _ _).trans hh)
theorem p89 {k : Nat} {v0 : Value} {h h1 : H} {v : Value} (hh : f89 rn k v0 h = some (v, h1)) (hp : plainO v = true) (x : Ext h h1) : rn 89 #[v0] h = some (v, h) := by rw [t89 hh, trunc_pure hp x]
theorem x89 {k : Nat} {v0 : Value} {h h1 : H} {v : Value} (hh : f89 rn k v0 h = some (v, h1)) (hp : plainO v = false) : ∃ h2, rn 89 #[v0] h = some (v, h2) ∧ Sm h1 h2 ∧ (Ext h h1 → Exw h h2) := trunc_cell hp (t89 hh)
theorem y89 {k : Nat} {v0 : Value} {h : H} {v : Value} (hh : f89 rn k v0 h = some (v, h)) : rn 89 #[v0] h = some (v, h) := by rw [t89 hh, trunc_self]

noncomputable def f93 (rec : Rec) (_k : Nat) (n0 : Int) (h0 : H) : Option (Value × H) :=
  calls rec h0 109 [(.int .u64 (wr .u64 n0))] fun v0 h1 =>
  asI .i64 v0 fun n1 =>
  some ((.int .i64 n1), h1)

theorem e93 (rec : Rec) (k : Nat) (n0 : Int) (h : H) : bodyT Tryd.prog E0 SC (XC Tryd.prog rec k) 93 (Value × H) [.int .i64 n0] h (fun v h => some (v, h)) = f93 rec k n0 h := by kernel_rfl
theorem t93 {k : Nat} {n0 : Int} {h h1 : H} {v : Value} (hh : f93 rn k n0 h = some (v, h1)) : rn 93 #[.int .i64 n0] h = some (v, trunc Tryd.prog h h1 v) :=
  run_of_bodyT (args := [.int .i64 n0]) rfl ((e93 _ _ _ _).trans hh)
theorem p93 {k : Nat} {n0 : Int} {h h1 : H} {v : Value} (hh : f93 rn k n0 h = some (v, h1)) (hp : plainO v = true) (x : Ext h h1) : rn 93 #[.int .i64 n0] h = some (v, h) := by rw [t93 hh, trunc_pure hp x]
theorem x93 {k : Nat} {n0 : Int} {h h1 : H} {v : Value} (hh : f93 rn k n0 h = some (v, h1)) (hp : plainO v = false) : ∃ h2, rn 93 #[.int .i64 n0] h = some (v, h2) ∧ Sm h1 h2 ∧ (Ext h h1 → Exw h h2) := trunc_cell hp (t93 hh)
theorem y93 {k : Nat} {n0 : Int} {h : H} {v : Value} (hh : f93 rn k n0 h = some (v, h)) : rn 93 #[.int .i64 n0] h = some (v, h) := by rw [t93 hh, trunc_self]

noncomputable def f109 (rec : Rec) (_k : Nat) (v0 : Value) (h0 : H) : Option (Value × H) :=
  calls rec h0 117 [v0] fun v1 h1 =>
  asI .i64 v1 fun n0 =>
  some ((.int .i64 n0), h1)

theorem e109 (rec : Rec) (k : Nat) (v0 : Value) (h : H) : bodyT Tryd.prog E0 SC (XC Tryd.prog rec k) 109 (Value × H) [.opq v0] h (fun v h => some (v, h)) = f109 rec k v0 h := by kernel_rfl
theorem t109 {k : Nat} {v0 : Value} {h h1 : H} {v : Value} (hh : f109 rn k v0 h = some (v, h1)) : rn 109 #[v0] h = some (v, trunc Tryd.prog h h1 v) :=
  run_of_bodyT (args := [.opq v0]) rfl ((e109 _ _ _ _).trans hh)
theorem p109 {k : Nat} {v0 : Value} {h h1 : H} {v : Value} (hh : f109 rn k v0 h = some (v, h1)) (hp : plainO v = true) (x : Ext h h1) : rn 109 #[v0] h = some (v, h) := by rw [t109 hh, trunc_pure hp x]
theorem x109 {k : Nat} {v0 : Value} {h h1 : H} {v : Value} (hh : f109 rn k v0 h = some (v, h1)) (hp : plainO v = false) : ∃ h2, rn 109 #[v0] h = some (v, h2) ∧ Sm h1 h2 ∧ (Ext h h1 → Exw h h2) := trunc_cell hp (t109 hh)
theorem y109 {k : Nat} {v0 : Value} {h : H} {v : Value} (hh : f109 rn k v0 h = some (v, h)) : rn 109 #[v0] h = some (v, h) := by rw [t109 hh, trunc_self]

noncomputable def f117 (_rec : Rec) (_k : Nat) (v0 : Value) (h0 : H) : Option (Value × H) :=
  asI .u64 v0 fun n0 =>
  nn 1 (
    asI .u64 v0 fun n1 =>
    nn 2 (
      nn 4 (
        nn 8 (
          nn 16 (
            nn 32 (
              some ((.int .i64 (and .i64 (wr .i64 (add .u64 (add .u64 (add .u64 (and .u64 (add .u64 (shr .u64 (add .u64 (and .u64 (shr .u64 (add .u64 (and .u64 (shr .u64 n0 1) 6148914691236517205) (and .u64 n1 6148914691236517205)) 2) 3689348814741910323) (and .u64 (add .u64 (and .u64 (shr .u64 n0 1) 6148914691236517205) (and .u64 n1 6148914691236517205)) 3689348814741910323)) 4) (add .u64 (and .u64 (shr .u64 (add .u64 (and .u64 (shr .u64 n0 1) 6148914691236517205) (and .u64 n1 6148914691236517205)) 2) 3689348814741910323) (and .u64 (add .u64 (and .u64 (shr .u64 n0 1) 6148914691236517205) (and .u64 n1 6148914691236517205)) 3689348814741910323))) 1085102592571150095) (shr .u64 (and .u64 (add .u64 (shr .u64 (add .u64 (and .u64 (shr .u64 (add .u64 (and .u64 (shr .u64 n0 1) 6148914691236517205) (and .u64 n1 6148914691236517205)) 2) 3689348814741910323) (and .u64 (add .u64 (and .u64 (shr .u64 n0 1) 6148914691236517205) (and .u64 n1 6148914691236517205)) 3689348814741910323)) 4) (add .u64 (and .u64 (shr .u64 (add .u64 (and .u64 (shr .u64 n0 1) 6148914691236517205) (and .u64 n1 6148914691236517205)) 2) 3689348814741910323) (and .u64 (add .u64 (and .u64 (shr .u64 n0 1) 6148914691236517205) (and .u64 n1 6148914691236517205)) 3689348814741910323))) 1085102592571150095) 8)) (shr .u64 (add .u64 (and .u64 (add .u64 (shr .u64 (add .u64 (and .u64 (shr .u64 (add .u64 (and .u64 (shr .u64 n0 1) 6148914691236517205) (and .u64 n1 6148914691236517205)) 2) 3689348814741910323) (and .u64 (add .u64 (and .u64 (shr .u64 n0 1) 6148914691236517205) (and .u64 n1 6148914691236517205)) 3689348814741910323)) 4) (add .u64 (and .u64 (shr .u64 (add .u64 (and .u64 (shr .u64 n0 1) 6148914691236517205) (and .u64 n1 6148914691236517205)) 2) 3689348814741910323) (and .u64 (add .u64 (and .u64 (shr .u64 n0 1) 6148914691236517205) (and .u64 n1 6148914691236517205)) 3689348814741910323))) 1085102592571150095) (shr .u64 (and .u64 (add .u64 (shr .u64 (add .u64 (and .u64 (shr .u64 (add .u64 (and .u64 (shr .u64 n0 1) 6148914691236517205) (and .u64 n1 6148914691236517205)) 2) 3689348814741910323) (and .u64 (add .u64 (and .u64 (shr .u64 n0 1) 6148914691236517205) (and .u64 n1 6148914691236517205)) 3689348814741910323)) 4) (add .u64 (and .u64 (shr .u64 (add .u64 (and .u64 (shr .u64 n0 1) 6148914691236517205) (and .u64 n1 6148914691236517205)) 2) 3689348814741910323) (and .u64 (add .u64 (and .u64 (shr .u64 n0 1) 6148914691236517205) (and .u64 n1 6148914691236517205)) 3689348814741910323))) 1085102592571150095) 8)) 16)) (shr .u64 (add .u64 (add .u64 (and .u64 (add .u64 (shr .u64 (add .u64 (and .u64 (shr .u64 (add .u64 (and .u64 (shr .u64 n0 1) 6148914691236517205) (and .u64 n1 6148914691236517205)) 2) 3689348814741910323) (and .u64 (add .u64 (and .u64 (shr .u64 n0 1) 6148914691236517205) (and .u64 n1 6148914691236517205)) 3689348814741910323)) 4) (add .u64 (and .u64 (shr .u64 (add .u64 (and .u64 (shr .u64 n0 1) 6148914691236517205) (and .u64 n1 6148914691236517205)) 2) 3689348814741910323) (and .u64 (add .u64 (and .u64 (shr .u64 n0 1) 6148914691236517205) (and .u64 n1 6148914691236517205)) 3689348814741910323))) 1085102592571150095) (shr .u64 (and .u64 (add .u64 (shr .u64 (add .u64 (and .u64 (shr .u64 (add .u64 (and .u64 (shr .u64 n0 1) 6148914691236517205) (and .u64 n1 6148914691236517205)) 2) 3689348814741910323) (and .u64 (add .u64 (and .u64 (shr .u64 n0 1) 6148914691236517205) (and .u64 n1 6148914691236517205)) 3689348814741910323)) 4) (add .u64 (and .u64 (shr .u64 (add .u64 (and .u64 (shr .u64 n0 1) 6148914691236517205) (and .u64 n1 6148914691236517205)) 2) 3689348814741910323) (and .u64 (add .u64 (and .u64 (shr .u64 n0 1) 6148914691236517205) (and .u64 n1 6148914691236517205)) 3689348814741910323))) 1085102592571150095) 8)) (shr .u64 (add .u64 (and .u64 (add .u64 (shr .u64 (add .u64 (and .u64 (shr .u64 (add .u64 (and .u64 (shr .u64 n0 1) 6148914691236517205) (and .u64 n1 6148914691236517205)) 2) 3689348814741910323) (and .u64 (add .u64 (and .u64 (shr .u64 n0 1) 6148914691236517205) (and .u64 n1 6148914691236517205)) 3689348814741910323)) 4) (add .u64 (and .u64 (shr .u64 (add .u64 (and .u64 (shr .u64 n0 1) 6148914691236517205) (and .u64 n1 6148914691236517205)) 2) 3689348814741910323) (and .u64 (add .u64 (and .u64 (shr .u64 n0 1) 6148914691236517205) (and .u64 n1 6148914691236517205)) 3689348814741910323))) 1085102592571150095) (shr .u64 (and .u64 (add .u64 (shr .u64 (add .u64 (and .u64 (shr .u64 (add .u64 (and .u64 (shr .u64 n0 1) 6148914691236517205) (and .u64 n1 6148914691236517205)) 2) 3689348814741910323) (and .u64 (add .u64 (and .u64 (shr .u64 n0 1) 6148914691236517205) (and .u64 n1 6148914691236517205)) 3689348814741910323)) 4) (add .u64 (and .u64 (shr .u64 (add .u64 (and .u64 (shr .u64 n0 1) 6148914691236517205) (and .u64 n1 6148914691236517205)) 2) 3689348814741910323) (and .u64 (add .u64 (and .u64 (shr .u64 n0 1) 6148914691236517205) (and .u64 n1 6148914691236517205)) 3689348814741910323))) 1085102592571150095) 8)) 16)) 32))) 127)), h0)))))))

theorem e117 (rec : Rec) (k : Nat) (v0 : Value) (h : H) : bodyT Tryd.prog E0 SC (XC Tryd.prog rec k) 117 (Value × H) [.opq v0] h (fun v h => some (v, h)) = f117 rec k v0 h := by kernel_rfl
theorem t117 {k : Nat} {v0 : Value} {h h1 : H} {v : Value} (hh : f117 rn k v0 h = some (v, h1)) : rn 117 #[v0] h = some (v, trunc Tryd.prog h h1 v) :=
  run_of_bodyT (args := [.opq v0]) rfl ((e117 _ _ _ _).trans hh)
theorem p117 {k : Nat} {v0 : Value} {h h1 : H} {v : Value} (hh : f117 rn k v0 h = some (v, h1)) (hp : plainO v = true) (x : Ext h h1) : rn 117 #[v0] h = some (v, h) := by rw [t117 hh, trunc_pure hp x]
theorem x117 {k : Nat} {v0 : Value} {h h1 : H} {v : Value} (hh : f117 rn k v0 h = some (v, h1)) (hp : plainO v = false) : ∃ h2, rn 117 #[v0] h = some (v, h2) ∧ Sm h1 h2 ∧ (Ext h h1 → Exw h h2) := trunc_cell hp (t117 hh)
theorem y117 {k : Nat} {v0 : Value} {h : H} {v : Value} (hh : f117 rn k v0 h = some (v, h)) : rn 117 #[v0] h = some (v, h) := by rw [t117 hh, trunc_self]

end Go.AM
