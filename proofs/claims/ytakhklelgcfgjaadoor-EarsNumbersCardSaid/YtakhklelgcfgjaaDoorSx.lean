/- The seat's environment, what its types are, and calls in the end. -/
import Derived.Test.YtakhklelgcfgjaaDoorAmSim
import Derived.Test.YtakhklelgcfgjaaDoorProg
import Derived.KernelRfl
namespace Go.AM
open Go.Proofs

/-- The table by which the library finds the lowest bit. -/
def tab64 : List Int := [0, 1, 56, 2, 57, 49, 28, 3, 61, 58, 42, 50, 38, 29, 17, 4, 62, 47, 59, 36, 45, 43, 51, 22, 53, 39, 33, 30, 24, 18, 12, 5, 63, 55, 48, 27, 60, 41, 37, 16, 46, 35, 44, 21, 52, 32, 23, 11, 54, 26, 40, 15, 34, 20, 31, 10, 25, 14, 19, 9, 13, 8, 7, 6]

/-- Two package-level variables, of which one is read; the calls that are made by themselves. -/
def E0 : Env := ⟨2, fun g => if g = 1 then some (.row (tab64.map fun n => .int .u8 n) 5 false) else none, fun f => f == 20 || f == 106⟩

noncomputable abbrev rn : Rec := run Tryd.prog E0

variable {R : Type} {h : H} {b o : Nat} {v : Value}
theorem ag0 : aggT Tryd.prog 0 = some false := by kernel_rfl
theorem sz0 : size? Tryd.prog 0 = some 1 := by kernel_rfl
theorem d0 {K : Value → Option R} : ld Tryd.prog h 0 b o K = (h.cell b o).bind K := ld_scS ag0
theorem w0 {K : H → Option R} : st Tryd.prog h 0 b o v K = (wrc 1 h b o v).bind K := st_S sz0
theorem ag1 : aggT Tryd.prog 1 = some false := by kernel_rfl
theorem sz1 : size? Tryd.prog 1 = some 1 := by kernel_rfl
theorem d1 {K : Value → Option R} : ld Tryd.prog h 1 b o K = (h.cell b o).bind K := ld_scS ag1
theorem w1 {K : H → Option R} : st Tryd.prog h 1 b o v K = (wrc 1 h b o v).bind K := st_S sz1
theorem ag2 : aggT Tryd.prog 2 = some false := by kernel_rfl
theorem sz2 : size? Tryd.prog 2 = some 1 := by kernel_rfl
theorem d2 {K : Value → Option R} : ld Tryd.prog h 2 b o K = (h.cell b o).bind K := ld_scS ag2
theorem w2 {K : H → Option R} : st Tryd.prog h 2 b o v K = (wrc 1 h b o v).bind K := st_S sz2
theorem ag3 : aggT Tryd.prog 3 = some false := by kernel_rfl
theorem sz3 : size? Tryd.prog 3 = some 1 := by kernel_rfl
theorem d3 {K : Value → Option R} : ld Tryd.prog h 3 b o K = (h.cell b o).bind K := ld_scS ag3
theorem w3 {K : H → Option R} : st Tryd.prog h 3 b o v K = (wrc 1 h b o v).bind K := st_S sz3
theorem ag4 : aggT Tryd.prog 4 = some false := by kernel_rfl
theorem sz4 : size? Tryd.prog 4 = some 1 := by kernel_rfl
theorem d4 {K : Value → Option R} : ld Tryd.prog h 4 b o K = (h.cell b o).bind K := ld_scS ag4
theorem w4 {K : H → Option R} : st Tryd.prog h 4 b o v K = (wrc 1 h b o v).bind K := st_S sz4
theorem ag5 : aggT Tryd.prog 5 = some false := by kernel_rfl
theorem sz5 : size? Tryd.prog 5 = some 1 := by kernel_rfl
theorem d5 {K : Value → Option R} : ld Tryd.prog h 5 b o K = (h.cell b o).bind K := ld_scS ag5
theorem w5 {K : H → Option R} : st Tryd.prog h 5 b o v K = (wrc 1 h b o v).bind K := st_S sz5
theorem ag6 : aggT Tryd.prog 6 = some false := by kernel_rfl
theorem sz6 : size? Tryd.prog 6 = some 1 := by kernel_rfl
theorem d6 {K : Value → Option R} : ld Tryd.prog h 6 b o K = (h.cell b o).bind K := ld_scS ag6
theorem w6 {K : H → Option R} : st Tryd.prog h 6 b o v K = (wrc 1 h b o v).bind K := st_S sz6
theorem ag7 : aggT Tryd.prog 7 = some true := by kernel_rfl
theorem sz7 : size? Tryd.prog 7 = some 4 := by kernel_rfl
theorem d7 {K : Value → Option R} : ld Tryd.prog h 7 b o K = (h.rd b o 4).bind fun l => K (.agg l.toArray) := ld_agS ag7 sz7
theorem w7 {K : H → Option R} : st Tryd.prog h 7 b o v K = (wrc 4 h b o v).bind K := st_S sz7
theorem ag8 : aggT Tryd.prog 8 = some true := by kernel_rfl
theorem sz8 : size? Tryd.prog 8 = some 4 := by kernel_rfl
theorem d8 {K : Value → Option R} : ld Tryd.prog h 8 b o K = (h.rd b o 4).bind fun l => K (.agg l.toArray) := ld_agS ag8 sz8
theorem w8 {K : H → Option R} : st Tryd.prog h 8 b o v K = (wrc 4 h b o v).bind K := st_S sz8
theorem ag9 : aggT Tryd.prog 9 = some false := by kernel_rfl
theorem sz9 : size? Tryd.prog 9 = some 1 := by kernel_rfl
theorem d9 {K : Value → Option R} : ld Tryd.prog h 9 b o K = (h.cell b o).bind K := ld_scS ag9
theorem w9 {K : H → Option R} : st Tryd.prog h 9 b o v K = (wrc 1 h b o v).bind K := st_S sz9
theorem ag10 : aggT Tryd.prog 10 = some false := by kernel_rfl
theorem sz10 : size? Tryd.prog 10 = some 1 := by kernel_rfl
theorem d10 {K : Value → Option R} : ld Tryd.prog h 10 b o K = (h.cell b o).bind K := ld_scS ag10
theorem w10 {K : H → Option R} : st Tryd.prog h 10 b o v K = (wrc 1 h b o v).bind K := st_S sz10
theorem ag11 : aggT Tryd.prog 11 = some false := by kernel_rfl
theorem sz11 : size? Tryd.prog 11 = some 1 := by kernel_rfl
theorem d11 {K : Value → Option R} : ld Tryd.prog h 11 b o K = (h.cell b o).bind K := ld_scS ag11
theorem w11 {K : H → Option R} : st Tryd.prog h 11 b o v K = (wrc 1 h b o v).bind K := st_S sz11
theorem ag12 : aggT Tryd.prog 12 = some false := by kernel_rfl
theorem sz12 : size? Tryd.prog 12 = some 1 := by kernel_rfl
theorem d12 {K : Value → Option R} : ld Tryd.prog h 12 b o K = (h.cell b o).bind K := ld_scS ag12
theorem w12 {K : H → Option R} : st Tryd.prog h 12 b o v K = (wrc 1 h b o v).bind K := st_S sz12
theorem ag13 : aggT Tryd.prog 13 = some true := by kernel_rfl
theorem sz13 : size? Tryd.prog 13 = some 2 := by kernel_rfl
theorem d13 {K : Value → Option R} : ld Tryd.prog h 13 b o K = (h.rd b o 2).bind fun l => K (.agg l.toArray) := ld_agS ag13 sz13
theorem w13 {K : H → Option R} : st Tryd.prog h 13 b o v K = (wrc 2 h b o v).bind K := st_S sz13
theorem ag14 : aggT Tryd.prog 14 = some true := by kernel_rfl
theorem sz14 : size? Tryd.prog 14 = some 2 := by kernel_rfl
theorem d14 {K : Value → Option R} : ld Tryd.prog h 14 b o K = (h.rd b o 2).bind fun l => K (.agg l.toArray) := ld_agS ag14 sz14
theorem w14 {K : H → Option R} : st Tryd.prog h 14 b o v K = (wrc 2 h b o v).bind K := st_S sz14
theorem ag15 : aggT Tryd.prog 15 = some false := by kernel_rfl
theorem sz15 : size? Tryd.prog 15 = some 1 := by kernel_rfl
theorem d15 {K : Value → Option R} : ld Tryd.prog h 15 b o K = (h.cell b o).bind K := ld_scS ag15
theorem w15 {K : H → Option R} : st Tryd.prog h 15 b o v K = (wrc 1 h b o v).bind K := st_S sz15
theorem ag16 : aggT Tryd.prog 16 = some false := by kernel_rfl
theorem sz16 : size? Tryd.prog 16 = some 1 := by kernel_rfl
theorem d16 {K : Value → Option R} : ld Tryd.prog h 16 b o K = (h.cell b o).bind K := ld_scS ag16
theorem w16 {K : H → Option R} : st Tryd.prog h 16 b o v K = (wrc 1 h b o v).bind K := st_S sz16
theorem ag17 : aggT Tryd.prog 17 = some false := by kernel_rfl
theorem sz17 : size? Tryd.prog 17 = some 1 := by kernel_rfl
theorem d17 {K : Value → Option R} : ld Tryd.prog h 17 b o K = (h.cell b o).bind K := ld_scS ag17
theorem w17 {K : H → Option R} : st Tryd.prog h 17 b o v K = (wrc 1 h b o v).bind K := st_S sz17
theorem ag18 : aggT Tryd.prog 18 = some true := by kernel_rfl
theorem sz18 : size? Tryd.prog 18 = some 1 := by kernel_rfl
theorem d18 {K : Value → Option R} : ld Tryd.prog h 18 b o K = (h.rd b o 1).bind fun l => K (.agg l.toArray) := ld_agS ag18 sz18
theorem w18 {K : H → Option R} : st Tryd.prog h 18 b o v K = (wrc 1 h b o v).bind K := st_S sz18
theorem ag19 : aggT Tryd.prog 19 = some true := by kernel_rfl
theorem sz19 : size? Tryd.prog 19 = some 1 := by kernel_rfl
theorem d19 {K : Value → Option R} : ld Tryd.prog h 19 b o K = (h.rd b o 1).bind fun l => K (.agg l.toArray) := ld_agS ag19 sz19
theorem w19 {K : H → Option R} : st Tryd.prog h 19 b o v K = (wrc 1 h b o v).bind K := st_S sz19
theorem ag20 : aggT Tryd.prog 20 = some false := by kernel_rfl
theorem sz20 : size? Tryd.prog 20 = some 1 := by kernel_rfl
theorem d20 {K : Value → Option R} : ld Tryd.prog h 20 b o K = (h.cell b o).bind K := ld_scS ag20
theorem w20 {K : H → Option R} : st Tryd.prog h 20 b o v K = (wrc 1 h b o v).bind K := st_S sz20
theorem ag21 : aggT Tryd.prog 21 = some false := by kernel_rfl
theorem sz21 : size? Tryd.prog 21 = some 1 := by kernel_rfl
theorem d21 {K : Value → Option R} : ld Tryd.prog h 21 b o K = (h.cell b o).bind K := ld_scS ag21
theorem w21 {K : H → Option R} : st Tryd.prog h 21 b o v K = (wrc 1 h b o v).bind K := st_S sz21
theorem ag22 : aggT Tryd.prog 22 = some false := by kernel_rfl
theorem sz22 : size? Tryd.prog 22 = some 1 := by kernel_rfl
theorem d22 {K : Value → Option R} : ld Tryd.prog h 22 b o K = (h.cell b o).bind K := ld_scS ag22
theorem w22 {K : H → Option R} : st Tryd.prog h 22 b o v K = (wrc 1 h b o v).bind K := st_S sz22
theorem ag23 : aggT Tryd.prog 23 = some false := by kernel_rfl
theorem sz23 : size? Tryd.prog 23 = some 1 := by kernel_rfl
theorem d23 {K : Value → Option R} : ld Tryd.prog h 23 b o K = (h.cell b o).bind K := ld_scS ag23
theorem w23 {K : H → Option R} : st Tryd.prog h 23 b o v K = (wrc 1 h b o v).bind K := st_S sz23
theorem ag24 : aggT Tryd.prog 24 = some false := by kernel_rfl
theorem sz24 : size? Tryd.prog 24 = some 1 := by kernel_rfl
theorem d24 {K : Value → Option R} : ld Tryd.prog h 24 b o K = (h.cell b o).bind K := ld_scS ag24
theorem w24 {K : H → Option R} : st Tryd.prog h 24 b o v K = (wrc 1 h b o v).bind K := st_S sz24
theorem ag25 : aggT Tryd.prog 25 = some false := by kernel_rfl
theorem sz25 : size? Tryd.prog 25 = some 1 := by kernel_rfl
theorem d25 {K : Value → Option R} : ld Tryd.prog h 25 b o K = (h.cell b o).bind K := ld_scS ag25
theorem w25 {K : H → Option R} : st Tryd.prog h 25 b o v K = (wrc 1 h b o v).bind K := st_S sz25
theorem ag26 : aggT Tryd.prog 26 = some false := by kernel_rfl
theorem sz26 : size? Tryd.prog 26 = some 1 := by kernel_rfl
theorem d26 {K : Value → Option R} : ld Tryd.prog h 26 b o K = (h.cell b o).bind K := ld_scS ag26
theorem w26 {K : H → Option R} : st Tryd.prog h 26 b o v K = (wrc 1 h b o v).bind K := st_S sz26
theorem ag27 : aggT Tryd.prog 27 = some false := by kernel_rfl
theorem sz27 : size? Tryd.prog 27 = some 1 := by kernel_rfl
theorem d27 {K : Value → Option R} : ld Tryd.prog h 27 b o K = (h.cell b o).bind K := ld_scS ag27
theorem w27 {K : H → Option R} : st Tryd.prog h 27 b o v K = (wrc 1 h b o v).bind K := st_S sz27
theorem ag28 : aggT Tryd.prog 28 = some false := by kernel_rfl
theorem sz28 : size? Tryd.prog 28 = some 1 := by kernel_rfl
theorem d28 {K : Value → Option R} : ld Tryd.prog h 28 b o K = (h.cell b o).bind K := ld_scS ag28
theorem w28 {K : H → Option R} : st Tryd.prog h 28 b o v K = (wrc 1 h b o v).bind K := st_S sz28
theorem ag29 : aggT Tryd.prog 29 = some false := by kernel_rfl
theorem sz29 : size? Tryd.prog 29 = some 1 := by kernel_rfl
theorem d29 {K : Value → Option R} : ld Tryd.prog h 29 b o K = (h.cell b o).bind K := ld_scS ag29
theorem w29 {K : H → Option R} : st Tryd.prog h 29 b o v K = (wrc 1 h b o v).bind K := st_S sz29
theorem ag30 : aggT Tryd.prog 30 = some false := by kernel_rfl
theorem sz30 : size? Tryd.prog 30 = some 1 := by kernel_rfl
theorem d30 {K : Value → Option R} : ld Tryd.prog h 30 b o K = (h.cell b o).bind K := ld_scS ag30
theorem w30 {K : H → Option R} : st Tryd.prog h 30 b o v K = (wrc 1 h b o v).bind K := st_S sz30
theorem ag31 : aggT Tryd.prog 31 = some false := by kernel_rfl
theorem sz31 : size? Tryd.prog 31 = some 1 := by kernel_rfl
theorem d31 {K : Value → Option R} : ld Tryd.prog h 31 b o K = (h.cell b o).bind K := ld_scS ag31
theorem w31 {K : H → Option R} : st Tryd.prog h 31 b o v K = (wrc 1 h b o v).bind K := st_S sz31
theorem ag32 : aggT Tryd.prog 32 = some true := by kernel_rfl
theorem sz32 : size? Tryd.prog 32 = some 2 := by kernel_rfl
theorem d32 {K : Value → Option R} : ld Tryd.prog h 32 b o K = (h.rd b o 2).bind fun l => K (.agg l.toArray) := ld_agS ag32 sz32
theorem w32 {K : H → Option R} : st Tryd.prog h 32 b o v K = (wrc 2 h b o v).bind K := st_S sz32
theorem ag33 : aggT Tryd.prog 33 = some false := by kernel_rfl
theorem sz33 : size? Tryd.prog 33 = some 1 := by kernel_rfl
theorem d33 {K : Value → Option R} : ld Tryd.prog h 33 b o K = (h.cell b o).bind K := ld_scS ag33
theorem w33 {K : H → Option R} : st Tryd.prog h 33 b o v K = (wrc 1 h b o v).bind K := st_S sz33
theorem ag34 : aggT Tryd.prog 34 = some false := by kernel_rfl
theorem sz34 : size? Tryd.prog 34 = some 1 := by kernel_rfl
theorem d34 {K : Value → Option R} : ld Tryd.prog h 34 b o K = (h.cell b o).bind K := ld_scS ag34
theorem w34 {K : H → Option R} : st Tryd.prog h 34 b o v K = (wrc 1 h b o v).bind K := st_S sz34
theorem ag35 : aggT Tryd.prog 35 = some false := by kernel_rfl
theorem sz35 : size? Tryd.prog 35 = some 1 := by kernel_rfl
theorem d35 {K : Value → Option R} : ld Tryd.prog h 35 b o K = (h.cell b o).bind K := ld_scS ag35
theorem w35 {K : H → Option R} : st Tryd.prog h 35 b o v K = (wrc 1 h b o v).bind K := st_S sz35
theorem ag36 : aggT Tryd.prog 36 = some false := by kernel_rfl
theorem sz36 : size? Tryd.prog 36 = some 1 := by kernel_rfl
theorem d36 {K : Value → Option R} : ld Tryd.prog h 36 b o K = (h.cell b o).bind K := ld_scS ag36
theorem w36 {K : H → Option R} : st Tryd.prog h 36 b o v K = (wrc 1 h b o v).bind K := st_S sz36
theorem ag37 : aggT Tryd.prog 37 = some false := by kernel_rfl
theorem sz37 : size? Tryd.prog 37 = some 1 := by kernel_rfl
theorem d37 {K : Value → Option R} : ld Tryd.prog h 37 b o K = (h.cell b o).bind K := ld_scS ag37
theorem w37 {K : H → Option R} : st Tryd.prog h 37 b o v K = (wrc 1 h b o v).bind K := st_S sz37
theorem ag38 : aggT Tryd.prog 38 = some false := by kernel_rfl
theorem sz38 : size? Tryd.prog 38 = some 1 := by kernel_rfl
theorem d38 {K : Value → Option R} : ld Tryd.prog h 38 b o K = (h.cell b o).bind K := ld_scS ag38
theorem w38 {K : H → Option R} : st Tryd.prog h 38 b o v K = (wrc 1 h b o v).bind K := st_S sz38
theorem ag39 : aggT Tryd.prog 39 = some false := by kernel_rfl
theorem sz39 : size? Tryd.prog 39 = some 1 := by kernel_rfl
theorem d39 {K : Value → Option R} : ld Tryd.prog h 39 b o K = (h.cell b o).bind K := ld_scS ag39
theorem w39 {K : H → Option R} : st Tryd.prog h 39 b o v K = (wrc 1 h b o v).bind K := st_S sz39
theorem ag40 : aggT Tryd.prog 40 = some false := by kernel_rfl
theorem sz40 : size? Tryd.prog 40 = some 1 := by kernel_rfl
theorem d40 {K : Value → Option R} : ld Tryd.prog h 40 b o K = (h.cell b o).bind K := ld_scS ag40
theorem w40 {K : H → Option R} : st Tryd.prog h 40 b o v K = (wrc 1 h b o v).bind K := st_S sz40
theorem ag41 : aggT Tryd.prog 41 = some false := by kernel_rfl
theorem sz41 : size? Tryd.prog 41 = some 1 := by kernel_rfl
theorem d41 {K : Value → Option R} : ld Tryd.prog h 41 b o K = (h.cell b o).bind K := ld_scS ag41
theorem w41 {K : H → Option R} : st Tryd.prog h 41 b o v K = (wrc 1 h b o v).bind K := st_S sz41
theorem ag42 : aggT Tryd.prog 42 = some false := by kernel_rfl
theorem sz42 : size? Tryd.prog 42 = some 1 := by kernel_rfl
theorem d42 {K : Value → Option R} : ld Tryd.prog h 42 b o K = (h.cell b o).bind K := ld_scS ag42
theorem w42 {K : H → Option R} : st Tryd.prog h 42 b o v K = (wrc 1 h b o v).bind K := st_S sz42
theorem ag43 : aggT Tryd.prog 43 = some false := by kernel_rfl
theorem sz43 : size? Tryd.prog 43 = some 1 := by kernel_rfl
theorem d43 {K : Value → Option R} : ld Tryd.prog h 43 b o K = (h.cell b o).bind K := ld_scS ag43
theorem w43 {K : H → Option R} : st Tryd.prog h 43 b o v K = (wrc 1 h b o v).bind K := st_S sz43
theorem ag44 : aggT Tryd.prog 44 = some false := by kernel_rfl
theorem sz44 : size? Tryd.prog 44 = some 1 := by kernel_rfl
theorem d44 {K : Value → Option R} : ld Tryd.prog h 44 b o K = (h.cell b o).bind K := ld_scS ag44
theorem w44 {K : H → Option R} : st Tryd.prog h 44 b o v K = (wrc 1 h b o v).bind K := st_S sz44
theorem ag45 : aggT Tryd.prog 45 = some false := by kernel_rfl
theorem sz45 : size? Tryd.prog 45 = some 1 := by kernel_rfl
theorem d45 {K : Value → Option R} : ld Tryd.prog h 45 b o K = (h.cell b o).bind K := ld_scS ag45
theorem w45 {K : H → Option R} : st Tryd.prog h 45 b o v K = (wrc 1 h b o v).bind K := st_S sz45
theorem ag46 : aggT Tryd.prog 46 = some false := by kernel_rfl
theorem sz46 : size? Tryd.prog 46 = some 1 := by kernel_rfl
theorem d46 {K : Value → Option R} : ld Tryd.prog h 46 b o K = (h.cell b o).bind K := ld_scS ag46
theorem w46 {K : H → Option R} : st Tryd.prog h 46 b o v K = (wrc 1 h b o v).bind K := st_S sz46
theorem ag47 : aggT Tryd.prog 47 = some false := by kernel_rfl
theorem sz47 : size? Tryd.prog 47 = some 1 := by kernel_rfl
theorem d47 {K : Value → Option R} : ld Tryd.prog h 47 b o K = (h.cell b o).bind K := ld_scS ag47
theorem w47 {K : H → Option R} : st Tryd.prog h 47 b o v K = (wrc 1 h b o v).bind K := st_S sz47
theorem ag48 : aggT Tryd.prog 48 = some false := by kernel_rfl
theorem sz48 : size? Tryd.prog 48 = some 1 := by kernel_rfl
theorem d48 {K : Value → Option R} : ld Tryd.prog h 48 b o K = (h.cell b o).bind K := ld_scS ag48
theorem w48 {K : H → Option R} : st Tryd.prog h 48 b o v K = (wrc 1 h b o v).bind K := st_S sz48
theorem ag49 : aggT Tryd.prog 49 = some false := by kernel_rfl
theorem sz49 : size? Tryd.prog 49 = some 1 := by kernel_rfl
theorem d49 {K : Value → Option R} : ld Tryd.prog h 49 b o K = (h.cell b o).bind K := ld_scS ag49
theorem w49 {K : H → Option R} : st Tryd.prog h 49 b o v K = (wrc 1 h b o v).bind K := st_S sz49
theorem ag50 : aggT Tryd.prog 50 = some false := by kernel_rfl
theorem sz50 : size? Tryd.prog 50 = some 1 := by kernel_rfl
theorem d50 {K : Value → Option R} : ld Tryd.prog h 50 b o K = (h.cell b o).bind K := ld_scS ag50
theorem w50 {K : H → Option R} : st Tryd.prog h 50 b o v K = (wrc 1 h b o v).bind K := st_S sz50
theorem ag51 : aggT Tryd.prog 51 = some false := by kernel_rfl
theorem sz51 : size? Tryd.prog 51 = some 1 := by kernel_rfl
theorem d51 {K : Value → Option R} : ld Tryd.prog h 51 b o K = (h.cell b o).bind K := ld_scS ag51
theorem w51 {K : H → Option R} : st Tryd.prog h 51 b o v K = (wrc 1 h b o v).bind K := st_S sz51
theorem ag52 : aggT Tryd.prog 52 = some false := by kernel_rfl
theorem sz52 : size? Tryd.prog 52 = some 1 := by kernel_rfl
theorem d52 {K : Value → Option R} : ld Tryd.prog h 52 b o K = (h.cell b o).bind K := ld_scS ag52
theorem w52 {K : H → Option R} : st Tryd.prog h 52 b o v K = (wrc 1 h b o v).bind K := st_S sz52
theorem ag53 : aggT Tryd.prog 53 = some false := by kernel_rfl
theorem sz53 : size? Tryd.prog 53 = some 1 := by kernel_rfl
theorem d53 {K : Value → Option R} : ld Tryd.prog h 53 b o K = (h.cell b o).bind K := ld_scS ag53
theorem w53 {K : H → Option R} : st Tryd.prog h 53 b o v K = (wrc 1 h b o v).bind K := st_S sz53
theorem ag54 : aggT Tryd.prog 54 = some false := by kernel_rfl
theorem sz54 : size? Tryd.prog 54 = some 1 := by kernel_rfl
theorem d54 {K : Value → Option R} : ld Tryd.prog h 54 b o K = (h.cell b o).bind K := ld_scS ag54
theorem w54 {K : H → Option R} : st Tryd.prog h 54 b o v K = (wrc 1 h b o v).bind K := st_S sz54
theorem ag55 : aggT Tryd.prog 55 = some false := by kernel_rfl
theorem sz55 : size? Tryd.prog 55 = some 1 := by kernel_rfl
theorem d55 {K : Value → Option R} : ld Tryd.prog h 55 b o K = (h.cell b o).bind K := ld_scS ag55
theorem w55 {K : H → Option R} : st Tryd.prog h 55 b o v K = (wrc 1 h b o v).bind K := st_S sz55
theorem ag56 : aggT Tryd.prog 56 = some false := by kernel_rfl
theorem sz56 : size? Tryd.prog 56 = some 1 := by kernel_rfl
theorem d56 {K : Value → Option R} : ld Tryd.prog h 56 b o K = (h.cell b o).bind K := ld_scS ag56
theorem w56 {K : H → Option R} : st Tryd.prog h 56 b o v K = (wrc 1 h b o v).bind K := st_S sz56
theorem ag57 : aggT Tryd.prog 57 = some false := by kernel_rfl
theorem sz57 : size? Tryd.prog 57 = some 1 := by kernel_rfl
theorem d57 {K : Value → Option R} : ld Tryd.prog h 57 b o K = (h.cell b o).bind K := ld_scS ag57
theorem w57 {K : H → Option R} : st Tryd.prog h 57 b o v K = (wrc 1 h b o v).bind K := st_S sz57
theorem ag58 : aggT Tryd.prog 58 = some false := by kernel_rfl
theorem sz58 : size? Tryd.prog 58 = some 1 := by kernel_rfl
theorem d58 {K : Value → Option R} : ld Tryd.prog h 58 b o K = (h.cell b o).bind K := ld_scS ag58
theorem w58 {K : H → Option R} : st Tryd.prog h 58 b o v K = (wrc 1 h b o v).bind K := st_S sz58
theorem ag59 : aggT Tryd.prog 59 = some false := by kernel_rfl
theorem sz59 : size? Tryd.prog 59 = some 1 := by kernel_rfl
theorem d59 {K : Value → Option R} : ld Tryd.prog h 59 b o K = (h.cell b o).bind K := ld_scS ag59
theorem w59 {K : H → Option R} : st Tryd.prog h 59 b o v K = (wrc 1 h b o v).bind K := st_S sz59
theorem ag60 : aggT Tryd.prog 60 = some false := by kernel_rfl
theorem sz60 : size? Tryd.prog 60 = some 1 := by kernel_rfl
theorem d60 {K : Value → Option R} : ld Tryd.prog h 60 b o K = (h.cell b o).bind K := ld_scS ag60
theorem w60 {K : H → Option R} : st Tryd.prog h 60 b o v K = (wrc 1 h b o v).bind K := st_S sz60
theorem ag61 : aggT Tryd.prog 61 = some false := by kernel_rfl
theorem sz61 : size? Tryd.prog 61 = some 1 := by kernel_rfl
theorem d61 {K : Value → Option R} : ld Tryd.prog h 61 b o K = (h.cell b o).bind K := ld_scS ag61
theorem w61 {K : H → Option R} : st Tryd.prog h 61 b o v K = (wrc 1 h b o v).bind K := st_S sz61
theorem ag62 : aggT Tryd.prog 62 = some false := by kernel_rfl
theorem sz62 : size? Tryd.prog 62 = some 1 := by kernel_rfl
theorem d62 {K : Value → Option R} : ld Tryd.prog h 62 b o K = (h.cell b o).bind K := ld_scS ag62
theorem w62 {K : H → Option R} : st Tryd.prog h 62 b o v K = (wrc 1 h b o v).bind K := st_S sz62
theorem ag63 : aggT Tryd.prog 63 = some false := by kernel_rfl
theorem sz63 : size? Tryd.prog 63 = some 1 := by kernel_rfl
theorem d63 {K : Value → Option R} : ld Tryd.prog h 63 b o K = (h.cell b o).bind K := ld_scS ag63
theorem w63 {K : H → Option R} : st Tryd.prog h 63 b o v K = (wrc 1 h b o v).bind K := st_S sz63
theorem ag64 : aggT Tryd.prog 64 = some false := by kernel_rfl
theorem sz64 : size? Tryd.prog 64 = some 1 := by kernel_rfl
theorem d64 {K : Value → Option R} : ld Tryd.prog h 64 b o K = (h.cell b o).bind K := ld_scS ag64
theorem w64 {K : H → Option R} : st Tryd.prog h 64 b o v K = (wrc 1 h b o v).bind K := st_S sz64
theorem ag65 : aggT Tryd.prog 65 = some false := by kernel_rfl
theorem sz65 : size? Tryd.prog 65 = some 1 := by kernel_rfl
theorem d65 {K : Value → Option R} : ld Tryd.prog h 65 b o K = (h.cell b o).bind K := ld_scS ag65
theorem w65 {K : H → Option R} : st Tryd.prog h 65 b o v K = (wrc 1 h b o v).bind K := st_S sz65
theorem ag66 : aggT Tryd.prog 66 = some false := by kernel_rfl
theorem sz66 : size? Tryd.prog 66 = some 1 := by kernel_rfl
theorem d66 {K : Value → Option R} : ld Tryd.prog h 66 b o K = (h.cell b o).bind K := ld_scS ag66
theorem w66 {K : H → Option R} : st Tryd.prog h 66 b o v K = (wrc 1 h b o v).bind K := st_S sz66
theorem ag67 : aggT Tryd.prog 67 = some false := by kernel_rfl
theorem sz67 : size? Tryd.prog 67 = some 1 := by kernel_rfl
theorem d67 {K : Value → Option R} : ld Tryd.prog h 67 b o K = (h.cell b o).bind K := ld_scS ag67
theorem w67 {K : H → Option R} : st Tryd.prog h 67 b o v K = (wrc 1 h b o v).bind K := st_S sz67
theorem ag68 : aggT Tryd.prog 68 = some false := by kernel_rfl
theorem sz68 : size? Tryd.prog 68 = some 1 := by kernel_rfl
theorem d68 {K : Value → Option R} : ld Tryd.prog h 68 b o K = (h.cell b o).bind K := ld_scS ag68
theorem w68 {K : H → Option R} : st Tryd.prog h 68 b o v K = (wrc 1 h b o v).bind K := st_S sz68
theorem ag69 : aggT Tryd.prog 69 = some false := by kernel_rfl
theorem sz69 : size? Tryd.prog 69 = some 1 := by kernel_rfl
theorem d69 {K : Value → Option R} : ld Tryd.prog h 69 b o K = (h.cell b o).bind K := ld_scS ag69
theorem w69 {K : H → Option R} : st Tryd.prog h 69 b o v K = (wrc 1 h b o v).bind K := st_S sz69
theorem ag70 : aggT Tryd.prog 70 = some false := by kernel_rfl
theorem sz70 : size? Tryd.prog 70 = some 1 := by kernel_rfl
theorem d70 {K : Value → Option R} : ld Tryd.prog h 70 b o K = (h.cell b o).bind K := ld_scS ag70
theorem w70 {K : H → Option R} : st Tryd.prog h 70 b o v K = (wrc 1 h b o v).bind K := st_S sz70
theorem ag71 : aggT Tryd.prog 71 = some false := by kernel_rfl
theorem sz71 : size? Tryd.prog 71 = some 1 := by kernel_rfl
theorem d71 {K : Value → Option R} : ld Tryd.prog h 71 b o K = (h.cell b o).bind K := ld_scS ag71
theorem w71 {K : H → Option R} : st Tryd.prog h 71 b o v K = (wrc 1 h b o v).bind K := st_S sz71
theorem ag72 : aggT Tryd.prog 72 = some false := by kernel_rfl
theorem sz72 : size? Tryd.prog 72 = some 1 := by kernel_rfl
theorem d72 {K : Value → Option R} : ld Tryd.prog h 72 b o K = (h.cell b o).bind K := ld_scS ag72
theorem w72 {K : H → Option R} : st Tryd.prog h 72 b o v K = (wrc 1 h b o v).bind K := st_S sz72
theorem ag73 : aggT Tryd.prog 73 = some false := by kernel_rfl
theorem sz73 : size? Tryd.prog 73 = some 1 := by kernel_rfl
theorem d73 {K : Value → Option R} : ld Tryd.prog h 73 b o K = (h.cell b o).bind K := ld_scS ag73
theorem w73 {K : H → Option R} : st Tryd.prog h 73 b o v K = (wrc 1 h b o v).bind K := st_S sz73
theorem ag74 : aggT Tryd.prog 74 = some false := by kernel_rfl
theorem sz74 : size? Tryd.prog 74 = some 1 := by kernel_rfl
theorem d74 {K : Value → Option R} : ld Tryd.prog h 74 b o K = (h.cell b o).bind K := ld_scS ag74
theorem w74 {K : H → Option R} : st Tryd.prog h 74 b o v K = (wrc 1 h b o v).bind K := st_S sz74
theorem ag75 : aggT Tryd.prog 75 = some false := by kernel_rfl
theorem sz75 : size? Tryd.prog 75 = some 1 := by kernel_rfl
theorem d75 {K : Value → Option R} : ld Tryd.prog h 75 b o K = (h.cell b o).bind K := ld_scS ag75
theorem w75 {K : H → Option R} : st Tryd.prog h 75 b o v K = (wrc 1 h b o v).bind K := st_S sz75
theorem ag76 : aggT Tryd.prog 76 = some false := by kernel_rfl
theorem sz76 : size? Tryd.prog 76 = some 1 := by kernel_rfl
theorem d76 {K : Value → Option R} : ld Tryd.prog h 76 b o K = (h.cell b o).bind K := ld_scS ag76
theorem w76 {K : H → Option R} : st Tryd.prog h 76 b o v K = (wrc 1 h b o v).bind K := st_S sz76
theorem ag77 : aggT Tryd.prog 77 = some false := by kernel_rfl
theorem sz77 : size? Tryd.prog 77 = some 1 := by kernel_rfl
theorem d77 {K : Value → Option R} : ld Tryd.prog h 77 b o K = (h.cell b o).bind K := ld_scS ag77
theorem w77 {K : H → Option R} : st Tryd.prog h 77 b o v K = (wrc 1 h b o v).bind K := st_S sz77
theorem ag78 : aggT Tryd.prog 78 = some false := by kernel_rfl
theorem sz78 : size? Tryd.prog 78 = some 1 := by kernel_rfl
theorem d78 {K : Value → Option R} : ld Tryd.prog h 78 b o K = (h.cell b o).bind K := ld_scS ag78
theorem w78 {K : H → Option R} : st Tryd.prog h 78 b o v K = (wrc 1 h b o v).bind K := st_S sz78
theorem ag79 : aggT Tryd.prog 79 = some false := by kernel_rfl
theorem sz79 : size? Tryd.prog 79 = some 1 := by kernel_rfl
theorem d79 {K : Value → Option R} : ld Tryd.prog h 79 b o K = (h.cell b o).bind K := ld_scS ag79
theorem w79 {K : H → Option R} : st Tryd.prog h 79 b o v K = (wrc 1 h b o v).bind K := st_S sz79
theorem ag80 : aggT Tryd.prog 80 = some false := by kernel_rfl
theorem sz80 : size? Tryd.prog 80 = some 1 := by kernel_rfl
theorem d80 {K : Value → Option R} : ld Tryd.prog h 80 b o K = (h.cell b o).bind K := ld_scS ag80
theorem w80 {K : H → Option R} : st Tryd.prog h 80 b o v K = (wrc 1 h b o v).bind K := st_S sz80
theorem ag81 : aggT Tryd.prog 81 = some false := by kernel_rfl
theorem sz81 : size? Tryd.prog 81 = some 1 := by kernel_rfl
theorem d81 {K : Value → Option R} : ld Tryd.prog h 81 b o K = (h.cell b o).bind K := ld_scS ag81
theorem w81 {K : H → Option R} : st Tryd.prog h 81 b o v K = (wrc 1 h b o v).bind K := st_S sz81
theorem ag82 : aggT Tryd.prog 82 = some false := by kernel_rfl
theorem sz82 : size? Tryd.prog 82 = some 1 := by kernel_rfl
theorem d82 {K : Value → Option R} : ld Tryd.prog h 82 b o K = (h.cell b o).bind K := ld_scS ag82
theorem w82 {K : H → Option R} : st Tryd.prog h 82 b o v K = (wrc 1 h b o v).bind K := st_S sz82
theorem ag83 : aggT Tryd.prog 83 = some false := by kernel_rfl
theorem sz83 : size? Tryd.prog 83 = some 1 := by kernel_rfl
theorem d83 {K : Value → Option R} : ld Tryd.prog h 83 b o K = (h.cell b o).bind K := ld_scS ag83
theorem w83 {K : H → Option R} : st Tryd.prog h 83 b o v K = (wrc 1 h b o v).bind K := st_S sz83
theorem ag84 : aggT Tryd.prog 84 = some false := by kernel_rfl
theorem sz84 : size? Tryd.prog 84 = some 1 := by kernel_rfl
theorem d84 {K : Value → Option R} : ld Tryd.prog h 84 b o K = (h.cell b o).bind K := ld_scS ag84
theorem w84 {K : H → Option R} : st Tryd.prog h 84 b o v K = (wrc 1 h b o v).bind K := st_S sz84
theorem ag85 : aggT Tryd.prog 85 = some false := by kernel_rfl
theorem sz85 : size? Tryd.prog 85 = some 1 := by kernel_rfl
theorem d85 {K : Value → Option R} : ld Tryd.prog h 85 b o K = (h.cell b o).bind K := ld_scS ag85
theorem w85 {K : H → Option R} : st Tryd.prog h 85 b o v K = (wrc 1 h b o v).bind K := st_S sz85
theorem ag86 : aggT Tryd.prog 86 = some false := by kernel_rfl
theorem sz86 : size? Tryd.prog 86 = some 1 := by kernel_rfl
theorem d86 {K : Value → Option R} : ld Tryd.prog h 86 b o K = (h.cell b o).bind K := ld_scS ag86
theorem w86 {K : H → Option R} : st Tryd.prog h 86 b o v K = (wrc 1 h b o v).bind K := st_S sz86
theorem ag87 : aggT Tryd.prog 87 = some false := by kernel_rfl
theorem sz87 : size? Tryd.prog 87 = some 1 := by kernel_rfl
theorem d87 {K : Value → Option R} : ld Tryd.prog h 87 b o K = (h.cell b o).bind K := ld_scS ag87
theorem w87 {K : H → Option R} : st Tryd.prog h 87 b o v K = (wrc 1 h b o v).bind K := st_S sz87
theorem ag88 : aggT Tryd.prog 88 = some false := by kernel_rfl
theorem sz88 : size? Tryd.prog 88 = some 1 := by kernel_rfl
theorem d88 {K : Value → Option R} : ld Tryd.prog h 88 b o K = (h.cell b o).bind K := ld_scS ag88
theorem w88 {K : H → Option R} : st Tryd.prog h 88 b o v K = (wrc 1 h b o v).bind K := st_S sz88
theorem ag89 : aggT Tryd.prog 89 = some false := by kernel_rfl
theorem sz89 : size? Tryd.prog 89 = some 1 := by kernel_rfl
theorem d89 {K : Value → Option R} : ld Tryd.prog h 89 b o K = (h.cell b o).bind K := ld_scS ag89
theorem w89 {K : H → Option R} : st Tryd.prog h 89 b o v K = (wrc 1 h b o v).bind K := st_S sz89
theorem ag90 : aggT Tryd.prog 90 = some false := by kernel_rfl
theorem sz90 : size? Tryd.prog 90 = some 1 := by kernel_rfl
theorem d90 {K : Value → Option R} : ld Tryd.prog h 90 b o K = (h.cell b o).bind K := ld_scS ag90
theorem w90 {K : H → Option R} : st Tryd.prog h 90 b o v K = (wrc 1 h b o v).bind K := st_S sz90
theorem ag91 : aggT Tryd.prog 91 = some true := by kernel_rfl
theorem sz91 : size? Tryd.prog 91 = some 2 := by kernel_rfl
theorem d91 {K : Value → Option R} : ld Tryd.prog h 91 b o K = (h.rd b o 2).bind fun l => K (.agg l.toArray) := ld_agS ag91 sz91
theorem w91 {K : H → Option R} : st Tryd.prog h 91 b o v K = (wrc 2 h b o v).bind K := st_S sz91
theorem ag92 : aggT Tryd.prog 92 = some true := by kernel_rfl
theorem sz92 : size? Tryd.prog 92 = some 2 := by kernel_rfl
theorem d92 {K : Value → Option R} : ld Tryd.prog h 92 b o K = (h.rd b o 2).bind fun l => K (.agg l.toArray) := ld_agS ag92 sz92
theorem w92 {K : H → Option R} : st Tryd.prog h 92 b o v K = (wrc 2 h b o v).bind K := st_S sz92
theorem ag93 : aggT Tryd.prog 93 = some false := by kernel_rfl
theorem sz93 : size? Tryd.prog 93 = some 1 := by kernel_rfl
theorem d93 {K : Value → Option R} : ld Tryd.prog h 93 b o K = (h.cell b o).bind K := ld_scS ag93
theorem w93 {K : H → Option R} : st Tryd.prog h 93 b o v K = (wrc 1 h b o v).bind K := st_S sz93
theorem ag94 : aggT Tryd.prog 94 = some true := by kernel_rfl
theorem sz94 : size? Tryd.prog 94 = some 2 := by kernel_rfl
theorem d94 {K : Value → Option R} : ld Tryd.prog h 94 b o K = (h.rd b o 2).bind fun l => K (.agg l.toArray) := ld_agS ag94 sz94
theorem w94 {K : H → Option R} : st Tryd.prog h 94 b o v K = (wrc 2 h b o v).bind K := st_S sz94
theorem ag95 : aggT Tryd.prog 95 = some false := by kernel_rfl
theorem sz95 : size? Tryd.prog 95 = some 1 := by kernel_rfl
theorem d95 {K : Value → Option R} : ld Tryd.prog h 95 b o K = (h.cell b o).bind K := ld_scS ag95
theorem w95 {K : H → Option R} : st Tryd.prog h 95 b o v K = (wrc 1 h b o v).bind K := st_S sz95
theorem ag96 : aggT Tryd.prog 96 = some false := by kernel_rfl
theorem sz96 : size? Tryd.prog 96 = some 1 := by kernel_rfl
theorem d96 {K : Value → Option R} : ld Tryd.prog h 96 b o K = (h.cell b o).bind K := ld_scS ag96
theorem w96 {K : H → Option R} : st Tryd.prog h 96 b o v K = (wrc 1 h b o v).bind K := st_S sz96
theorem ag97 : aggT Tryd.prog 97 = some false := by kernel_rfl
theorem sz97 : size? Tryd.prog 97 = some 1 := by kernel_rfl
theorem d97 {K : Value → Option R} : ld Tryd.prog h 97 b o K = (h.cell b o).bind K := ld_scS ag97
theorem w97 {K : H → Option R} : st Tryd.prog h 97 b o v K = (wrc 1 h b o v).bind K := st_S sz97
theorem ag98 : aggT Tryd.prog 98 = some true := by kernel_rfl
theorem sz98 : size? Tryd.prog 98 = some 3 := by kernel_rfl
theorem d98 {K : Value → Option R} : ld Tryd.prog h 98 b o K = (h.rd b o 3).bind fun l => K (.agg l.toArray) := ld_agS ag98 sz98
theorem w98 {K : H → Option R} : st Tryd.prog h 98 b o v K = (wrc 3 h b o v).bind K := st_S sz98
theorem ag99 : aggT Tryd.prog 99 = some true := by kernel_rfl
theorem sz99 : size? Tryd.prog 99 = some 3 := by kernel_rfl
theorem d99 {K : Value → Option R} : ld Tryd.prog h 99 b o K = (h.rd b o 3).bind fun l => K (.agg l.toArray) := ld_agS ag99 sz99
theorem w99 {K : H → Option R} : st Tryd.prog h 99 b o v K = (wrc 3 h b o v).bind K := st_S sz99
theorem ag100 : aggT Tryd.prog 100 = some false := by kernel_rfl
theorem sz100 : size? Tryd.prog 100 = some 1 := by kernel_rfl
theorem d100 {K : Value → Option R} : ld Tryd.prog h 100 b o K = (h.cell b o).bind K := ld_scS ag100
theorem w100 {K : H → Option R} : st Tryd.prog h 100 b o v K = (wrc 1 h b o v).bind K := st_S sz100
theorem ag101 : aggT Tryd.prog 101 = some false := by kernel_rfl
theorem sz101 : size? Tryd.prog 101 = some 1 := by kernel_rfl
theorem d101 {K : Value → Option R} : ld Tryd.prog h 101 b o K = (h.cell b o).bind K := ld_scS ag101
theorem w101 {K : H → Option R} : st Tryd.prog h 101 b o v K = (wrc 1 h b o v).bind K := st_S sz101
theorem ag102 : aggT Tryd.prog 102 = some false := by kernel_rfl
theorem sz102 : size? Tryd.prog 102 = some 1 := by kernel_rfl
theorem d102 {K : Value → Option R} : ld Tryd.prog h 102 b o K = (h.cell b o).bind K := ld_scS ag102
theorem w102 {K : H → Option R} : st Tryd.prog h 102 b o v K = (wrc 1 h b o v).bind K := st_S sz102
theorem ag103 : aggT Tryd.prog 103 = some false := by kernel_rfl
theorem sz103 : size? Tryd.prog 103 = some 1 := by kernel_rfl
theorem d103 {K : Value → Option R} : ld Tryd.prog h 103 b o K = (h.cell b o).bind K := ld_scS ag103
theorem w103 {K : H → Option R} : st Tryd.prog h 103 b o v K = (wrc 1 h b o v).bind K := st_S sz103
theorem ag104 : aggT Tryd.prog 104 = some false := by kernel_rfl
theorem sz104 : size? Tryd.prog 104 = some 1 := by kernel_rfl
theorem d104 {K : Value → Option R} : ld Tryd.prog h 104 b o K = (h.cell b o).bind K := ld_scS ag104
theorem w104 {K : H → Option R} : st Tryd.prog h 104 b o v K = (wrc 1 h b o v).bind K := st_S sz104
theorem ag105 : aggT Tryd.prog 105 = some false := by kernel_rfl
theorem sz105 : size? Tryd.prog 105 = some 1 := by kernel_rfl
theorem d105 {K : Value → Option R} : ld Tryd.prog h 105 b o K = (h.cell b o).bind K := ld_scS ag105
theorem w105 {K : H → Option R} : st Tryd.prog h 105 b o v K = (wrc 1 h b o v).bind K := st_S sz105
theorem ag106 : aggT Tryd.prog 106 = some false := by kernel_rfl
theorem sz106 : size? Tryd.prog 106 = some 1 := by kernel_rfl
theorem d106 {K : Value → Option R} : ld Tryd.prog h 106 b o K = (h.cell b o).bind K := ld_scS ag106
theorem w106 {K : H → Option R} : st Tryd.prog h 106 b o v K = (wrc 1 h b o v).bind K := st_S sz106
theorem ag107 : aggT Tryd.prog 107 = some false := by kernel_rfl
theorem sz107 : size? Tryd.prog 107 = some 1 := by kernel_rfl
theorem d107 {K : Value → Option R} : ld Tryd.prog h 107 b o K = (h.cell b o).bind K := ld_scS ag107
theorem w107 {K : H → Option R} : st Tryd.prog h 107 b o v K = (wrc 1 h b o v).bind K := st_S sz107
theorem ag108 : aggT Tryd.prog 108 = some false := by kernel_rfl
theorem sz108 : size? Tryd.prog 108 = some 1 := by kernel_rfl
theorem d108 {K : Value → Option R} : ld Tryd.prog h 108 b o K = (h.cell b o).bind K := ld_scS ag108
theorem w108 {K : H → Option R} : st Tryd.prog h 108 b o v K = (wrc 1 h b o v).bind K := st_S sz108
theorem ag109 : aggT Tryd.prog 109 = some false := by kernel_rfl
theorem sz109 : size? Tryd.prog 109 = some 1 := by kernel_rfl
theorem d109 {K : Value → Option R} : ld Tryd.prog h 109 b o K = (h.cell b o).bind K := ld_scS ag109
theorem w109 {K : H → Option R} : st Tryd.prog h 109 b o v K = (wrc 1 h b o v).bind K := st_S sz109
theorem ag110 : aggT Tryd.prog 110 = some false := by kernel_rfl
theorem sz110 : size? Tryd.prog 110 = some 1 := by kernel_rfl
theorem d110 {K : Value → Option R} : ld Tryd.prog h 110 b o K = (h.cell b o).bind K := ld_scS ag110
theorem w110 {K : H → Option R} : st Tryd.prog h 110 b o v K = (wrc 1 h b o v).bind K := st_S sz110
theorem ag111 : aggT Tryd.prog 111 = some false := by kernel_rfl
theorem sz111 : size? Tryd.prog 111 = some 1 := by kernel_rfl
theorem d111 {K : Value → Option R} : ld Tryd.prog h 111 b o K = (h.cell b o).bind K := ld_scS ag111
theorem w111 {K : H → Option R} : st Tryd.prog h 111 b o v K = (wrc 1 h b o v).bind K := st_S sz111
theorem ag112 : aggT Tryd.prog 112 = some false := by kernel_rfl
theorem sz112 : size? Tryd.prog 112 = some 1 := by kernel_rfl
theorem d112 {K : Value → Option R} : ld Tryd.prog h 112 b o K = (h.cell b o).bind K := ld_scS ag112
theorem w112 {K : H → Option R} : st Tryd.prog h 112 b o v K = (wrc 1 h b o v).bind K := st_S sz112
theorem ag113 : aggT Tryd.prog 113 = some false := by kernel_rfl
theorem sz113 : size? Tryd.prog 113 = some 1 := by kernel_rfl
theorem d113 {K : Value → Option R} : ld Tryd.prog h 113 b o K = (h.cell b o).bind K := ld_scS ag113
theorem w113 {K : H → Option R} : st Tryd.prog h 113 b o v K = (wrc 1 h b o v).bind K := st_S sz113
theorem ag114 : aggT Tryd.prog 114 = some true := by kernel_rfl
theorem sz114 : size? Tryd.prog 114 = some 6 := by kernel_rfl
theorem d114 {K : Value → Option R} : ld Tryd.prog h 114 b o K = (h.rd b o 6).bind fun l => K (.agg l.toArray) := ld_agS ag114 sz114
theorem w114 {K : H → Option R} : st Tryd.prog h 114 b o v K = (wrc 6 h b o v).bind K := st_S sz114
theorem ag115 : aggT Tryd.prog 115 = some true := by kernel_rfl
theorem sz115 : size? Tryd.prog 115 = some 6 := by kernel_rfl
theorem d115 {K : Value → Option R} : ld Tryd.prog h 115 b o K = (h.rd b o 6).bind fun l => K (.agg l.toArray) := ld_agS ag115 sz115
theorem w115 {K : H → Option R} : st Tryd.prog h 115 b o v K = (wrc 6 h b o v).bind K := st_S sz115
theorem ag116 : aggT Tryd.prog 116 = some false := by kernel_rfl
theorem sz116 : size? Tryd.prog 116 = some 1 := by kernel_rfl
theorem d116 {K : Value → Option R} : ld Tryd.prog h 116 b o K = (h.cell b o).bind K := ld_scS ag116
theorem w116 {K : H → Option R} : st Tryd.prog h 116 b o v K = (wrc 1 h b o v).bind K := st_S sz116
theorem ag117 : aggT Tryd.prog 117 = some false := by kernel_rfl
theorem sz117 : size? Tryd.prog 117 = some 1 := by kernel_rfl
theorem d117 {K : Value → Option R} : ld Tryd.prog h 117 b o K = (h.cell b o).bind K := ld_scS ag117
theorem w117 {K : H → Option R} : st Tryd.prog h 117 b o v K = (wrc 1 h b o v).bind K := st_S sz117
theorem ag118 : aggT Tryd.prog 118 = some false := by kernel_rfl
theorem sz118 : size? Tryd.prog 118 = some 1 := by kernel_rfl
theorem d118 {K : Value → Option R} : ld Tryd.prog h 118 b o K = (h.cell b o).bind K := ld_scS ag118
theorem w118 {K : H → Option R} : st Tryd.prog h 118 b o v K = (wrc 1 h b o v).bind K := st_S sz118
theorem ag119 : aggT Tryd.prog 119 = some false := by kernel_rfl
theorem sz119 : size? Tryd.prog 119 = some 1 := by kernel_rfl
theorem d119 {K : Value → Option R} : ld Tryd.prog h 119 b o K = (h.cell b o).bind K := ld_scS ag119
theorem w119 {K : H → Option R} : st Tryd.prog h 119 b o v K = (wrc 1 h b o v).bind K := st_S sz119
theorem ag120 : aggT Tryd.prog 120 = some false := by kernel_rfl
theorem sz120 : size? Tryd.prog 120 = some 1 := by kernel_rfl
theorem d120 {K : Value → Option R} : ld Tryd.prog h 120 b o K = (h.cell b o).bind K := ld_scS ag120
theorem w120 {K : H → Option R} : st Tryd.prog h 120 b o v K = (wrc 1 h b o v).bind K := st_S sz120
theorem ag121 : aggT Tryd.prog 121 = some false := by kernel_rfl
theorem sz121 : size? Tryd.prog 121 = some 1 := by kernel_rfl
theorem d121 {K : Value → Option R} : ld Tryd.prog h 121 b o K = (h.cell b o).bind K := ld_scS ag121
theorem w121 {K : H → Option R} : st Tryd.prog h 121 b o v K = (wrc 1 h b o v).bind K := st_S sz121
theorem ag122 : aggT Tryd.prog 122 = some false := by kernel_rfl
theorem sz122 : size? Tryd.prog 122 = some 1 := by kernel_rfl
theorem d122 {K : Value → Option R} : ld Tryd.prog h 122 b o K = (h.cell b o).bind K := ld_scS ag122
theorem w122 {K : H → Option R} : st Tryd.prog h 122 b o v K = (wrc 1 h b o v).bind K := st_S sz122
theorem ag123 : aggT Tryd.prog 123 = some false := by kernel_rfl
theorem sz123 : size? Tryd.prog 123 = some 1 := by kernel_rfl
theorem d123 {K : Value → Option R} : ld Tryd.prog h 123 b o K = (h.cell b o).bind K := ld_scS ag123
theorem w123 {K : H → Option R} : st Tryd.prog h 123 b o v K = (wrc 1 h b o v).bind K := st_S sz123
theorem ag124 : aggT Tryd.prog 124 = some false := by kernel_rfl
theorem sz124 : size? Tryd.prog 124 = some 1 := by kernel_rfl
theorem d124 {K : Value → Option R} : ld Tryd.prog h 124 b o K = (h.cell b o).bind K := ld_scS ag124
theorem w124 {K : H → Option R} : st Tryd.prog h 124 b o v K = (wrc 1 h b o v).bind K := st_S sz124
theorem ag125 : aggT Tryd.prog 125 = some false := by kernel_rfl
theorem sz125 : size? Tryd.prog 125 = some 1 := by kernel_rfl
theorem d125 {K : Value → Option R} : ld Tryd.prog h 125 b o K = (h.cell b o).bind K := ld_scS ag125
theorem w125 {K : H → Option R} : st Tryd.prog h 125 b o v K = (wrc 1 h b o v).bind K := st_S sz125
theorem ag126 : aggT Tryd.prog 126 = some false := by kernel_rfl
theorem sz126 : size? Tryd.prog 126 = some 1 := by kernel_rfl
theorem d126 {K : Value → Option R} : ld Tryd.prog h 126 b o K = (h.cell b o).bind K := ld_scS ag126
theorem w126 {K : H → Option R} : st Tryd.prog h 126 b o v K = (wrc 1 h b o v).bind K := st_S sz126
theorem ag127 : aggT Tryd.prog 127 = some false := by kernel_rfl
theorem sz127 : size? Tryd.prog 127 = some 1 := by kernel_rfl
theorem d127 {K : Value → Option R} : ld Tryd.prog h 127 b o K = (h.cell b o).bind K := ld_scS ag127
theorem w127 {K : H → Option R} : st Tryd.prog h 127 b o v K = (wrc 1 h b o v).bind K := st_S sz127
theorem ag128 : aggT Tryd.prog 128 = some true := by kernel_rfl
theorem sz128 : size? Tryd.prog 128 = some 2 := by kernel_rfl
theorem d128 {K : Value → Option R} : ld Tryd.prog h 128 b o K = (h.rd b o 2).bind fun l => K (.agg l.toArray) := ld_agS ag128 sz128
theorem w128 {K : H → Option R} : st Tryd.prog h 128 b o v K = (wrc 2 h b o v).bind K := st_S sz128
theorem ag129 : aggT Tryd.prog 129 = some true := by kernel_rfl
theorem sz129 : size? Tryd.prog 129 = some 2 := by kernel_rfl
theorem d129 {K : Value → Option R} : ld Tryd.prog h 129 b o K = (h.rd b o 2).bind fun l => K (.agg l.toArray) := ld_agS ag129 sz129
theorem w129 {K : H → Option R} : st Tryd.prog h 129 b o v K = (wrc 2 h b o v).bind K := st_S sz129
theorem ag130 : aggT Tryd.prog 130 = some false := by kernel_rfl
theorem sz130 : size? Tryd.prog 130 = some 1 := by kernel_rfl
theorem d130 {K : Value → Option R} : ld Tryd.prog h 130 b o K = (h.cell b o).bind K := ld_scS ag130
theorem w130 {K : H → Option R} : st Tryd.prog h 130 b o v K = (wrc 1 h b o v).bind K := st_S sz130
theorem ag131 : aggT Tryd.prog 131 = some false := by kernel_rfl
theorem sz131 : size? Tryd.prog 131 = some 1 := by kernel_rfl
theorem d131 {K : Value → Option R} : ld Tryd.prog h 131 b o K = (h.cell b o).bind K := ld_scS ag131
theorem w131 {K : H → Option R} : st Tryd.prog h 131 b o v K = (wrc 1 h b o v).bind K := st_S sz131
theorem ag132 : aggT Tryd.prog 132 = some false := by kernel_rfl
theorem sz132 : size? Tryd.prog 132 = some 1 := by kernel_rfl
theorem d132 {K : Value → Option R} : ld Tryd.prog h 132 b o K = (h.cell b o).bind K := ld_scS ag132
theorem w132 {K : H → Option R} : st Tryd.prog h 132 b o v K = (wrc 1 h b o v).bind K := st_S sz132
theorem ag133 : aggT Tryd.prog 133 = some false := by kernel_rfl
theorem sz133 : size? Tryd.prog 133 = some 1 := by kernel_rfl
theorem d133 {K : Value → Option R} : ld Tryd.prog h 133 b o K = (h.cell b o).bind K := ld_scS ag133
theorem w133 {K : H → Option R} : st Tryd.prog h 133 b o v K = (wrc 1 h b o v).bind K := st_S sz133
theorem ag134 : aggT Tryd.prog 134 = some false := by kernel_rfl
theorem sz134 : size? Tryd.prog 134 = some 1 := by kernel_rfl
theorem d134 {K : Value → Option R} : ld Tryd.prog h 134 b o K = (h.cell b o).bind K := ld_scS ag134
theorem w134 {K : H → Option R} : st Tryd.prog h 134 b o v K = (wrc 1 h b o v).bind K := st_S sz134
theorem ag135 : aggT Tryd.prog 135 = some true := by kernel_rfl
theorem sz135 : size? Tryd.prog 135 = some 32 := by kernel_rfl
theorem d135 {K : Value → Option R} : ld Tryd.prog h 135 b o K = (h.rd b o 32).bind fun l => K (.agg l.toArray) := ld_agS ag135 sz135
theorem w135 {K : H → Option R} : st Tryd.prog h 135 b o v K = (wrc 32 h b o v).bind K := st_S sz135
theorem ag136 : aggT Tryd.prog 136 = some true := by kernel_rfl
theorem sz136 : size? Tryd.prog 136 = some 64 := by kernel_rfl
theorem d136 {K : Value → Option R} : ld Tryd.prog h 136 b o K = (h.rd b o 64).bind fun l => K (.agg l.toArray) := ld_agS ag136 sz136
theorem w136 {K : H → Option R} : st Tryd.prog h 136 b o v K = (wrc 64 h b o v).bind K := st_S sz136
theorem ag137 : aggT Tryd.prog 137 = some false := by kernel_rfl
theorem sz137 : size? Tryd.prog 137 = some 1 := by kernel_rfl
theorem d137 {K : Value → Option R} : ld Tryd.prog h 137 b o K = (h.cell b o).bind K := ld_scS ag137
theorem w137 {K : H → Option R} : st Tryd.prog h 137 b o v K = (wrc 1 h b o v).bind K := st_S sz137
theorem ag138 : aggT Tryd.prog 138 = some false := by kernel_rfl
theorem sz138 : size? Tryd.prog 138 = some 1 := by kernel_rfl
theorem d138 {K : Value → Option R} : ld Tryd.prog h 138 b o K = (h.cell b o).bind K := ld_scS ag138
theorem w138 {K : H → Option R} : st Tryd.prog h 138 b o v K = (wrc 1 h b o v).bind K := st_S sz138
theorem ag139 : aggT Tryd.prog 139 = some false := by kernel_rfl
theorem sz139 : size? Tryd.prog 139 = some 1 := by kernel_rfl
theorem d139 {K : Value → Option R} : ld Tryd.prog h 139 b o K = (h.cell b o).bind K := ld_scS ag139
theorem w139 {K : H → Option R} : st Tryd.prog h 139 b o v K = (wrc 1 h b o v).bind K := st_S sz139

end Go.AM
