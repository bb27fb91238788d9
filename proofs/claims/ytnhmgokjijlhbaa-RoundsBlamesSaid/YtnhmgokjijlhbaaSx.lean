/- The seat's environment, what its types are, and calls in the end. -/
import Derived.Test.YtnhmgokjijlhbaaAmSim
import Derived.Test.YtnhmgokjijlhbaaProg
import Derived.KernelRfl
namespace Go.AM
open Go.Proofs

/-- No package-level variables; the calls that are made by themselves. -/
def E0 : Env := ⟨0, fun _ => none, fun f => f == 19⟩

noncomputable abbrev rn : Rec := run Try.prog E0

variable {R : Type} {h : H} {b o : Nat} {v : Value}
theorem ag0 : aggT Try.prog 0 = some false := by kernel_rfl
theorem sz0 : size? Try.prog 0 = some 1 := by kernel_rfl
theorem d0 {K : Value → Option R} : ld Try.prog h 0 b o K = (h.cell b o).bind K := ld_scS ag0
theorem w0 {K : H → Option R} : st Try.prog h 0 b o v K = (wrc 1 h b o v).bind K := st_S sz0
theorem ag1 : aggT Try.prog 1 = some false := by kernel_rfl
theorem sz1 : size? Try.prog 1 = some 1 := by kernel_rfl
theorem d1 {K : Value → Option R} : ld Try.prog h 1 b o K = (h.cell b o).bind K := ld_scS ag1
theorem w1 {K : H → Option R} : st Try.prog h 1 b o v K = (wrc 1 h b o v).bind K := st_S sz1
theorem ag2 : aggT Try.prog 2 = some false := by kernel_rfl
theorem sz2 : size? Try.prog 2 = some 1 := by kernel_rfl
theorem d2 {K : Value → Option R} : ld Try.prog h 2 b o K = (h.cell b o).bind K := ld_scS ag2
theorem w2 {K : H → Option R} : st Try.prog h 2 b o v K = (wrc 1 h b o v).bind K := st_S sz2
theorem ag3 : aggT Try.prog 3 = some false := by kernel_rfl
theorem sz3 : size? Try.prog 3 = some 1 := by kernel_rfl
theorem d3 {K : Value → Option R} : ld Try.prog h 3 b o K = (h.cell b o).bind K := ld_scS ag3
theorem w3 {K : H → Option R} : st Try.prog h 3 b o v K = (wrc 1 h b o v).bind K := st_S sz3
theorem ag4 : aggT Try.prog 4 = some false := by kernel_rfl
theorem sz4 : size? Try.prog 4 = some 1 := by kernel_rfl
theorem d4 {K : Value → Option R} : ld Try.prog h 4 b o K = (h.cell b o).bind K := ld_scS ag4
theorem w4 {K : H → Option R} : st Try.prog h 4 b o v K = (wrc 1 h b o v).bind K := st_S sz4
theorem ag5 : aggT Try.prog 5 = some false := by kernel_rfl
theorem sz5 : size? Try.prog 5 = some 1 := by kernel_rfl
theorem d5 {K : Value → Option R} : ld Try.prog h 5 b o K = (h.cell b o).bind K := ld_scS ag5
theorem w5 {K : H → Option R} : st Try.prog h 5 b o v K = (wrc 1 h b o v).bind K := st_S sz5
theorem ag6 : aggT Try.prog 6 = some false := by kernel_rfl
theorem sz6 : size? Try.prog 6 = some 1 := by kernel_rfl
theorem d6 {K : Value → Option R} : ld Try.prog h 6 b o K = (h.cell b o).bind K := ld_scS ag6
theorem w6 {K : H → Option R} : st Try.prog h 6 b o v K = (wrc 1 h b o v).bind K := st_S sz6
theorem ag7 : aggT Try.prog 7 = some true := by kernel_rfl
theorem sz7 : size? Try.prog 7 = some 4 := by kernel_rfl
theorem d7 {K : Value → Option R} : ld Try.prog h 7 b o K = (h.rd b o 4).bind fun l => K (.agg l.toArray) := ld_agS ag7 sz7
theorem w7 {K : H → Option R} : st Try.prog h 7 b o v K = (wrc 4 h b o v).bind K := st_S sz7
theorem ag8 : aggT Try.prog 8 = some true := by kernel_rfl
theorem sz8 : size? Try.prog 8 = some 4 := by kernel_rfl
theorem d8 {K : Value → Option R} : ld Try.prog h 8 b o K = (h.rd b o 4).bind fun l => K (.agg l.toArray) := ld_agS ag8 sz8
theorem w8 {K : H → Option R} : st Try.prog h 8 b o v K = (wrc 4 h b o v).bind K := st_S sz8
theorem ag9 : aggT Try.prog 9 = some false := by kernel_rfl
theorem sz9 : size? Try.prog 9 = some 1 := by kernel_rfl
theorem d9 {K : Value → Option R} : ld Try.prog h 9 b o K = (h.cell b o).bind K := ld_scS ag9
theorem w9 {K : H → Option R} : st Try.prog h 9 b o v K = (wrc 1 h b o v).bind K := st_S sz9
theorem ag10 : aggT Try.prog 10 = some false := by kernel_rfl
theorem sz10 : size? Try.prog 10 = some 1 := by kernel_rfl
theorem d10 {K : Value → Option R} : ld Try.prog h 10 b o K = (h.cell b o).bind K := ld_scS ag10
theorem w10 {K : H → Option R} : st Try.prog h 10 b o v K = (wrc 1 h b o v).bind K := st_S sz10
theorem ag11 : aggT Try.prog 11 = some false := by kernel_rfl
theorem sz11 : size? Try.prog 11 = some 1 := by kernel_rfl
theorem d11 {K : Value → Option R} : ld Try.prog h 11 b o K = (h.cell b o).bind K := ld_scS ag11
theorem w11 {K : H → Option R} : st Try.prog h 11 b o v K = (wrc 1 h b o v).bind K := st_S sz11
theorem ag12 : aggT Try.prog 12 = some false := by kernel_rfl
theorem sz12 : size? Try.prog 12 = some 1 := by kernel_rfl
theorem d12 {K : Value → Option R} : ld Try.prog h 12 b o K = (h.cell b o).bind K := ld_scS ag12
theorem w12 {K : H → Option R} : st Try.prog h 12 b o v K = (wrc 1 h b o v).bind K := st_S sz12
theorem ag13 : aggT Try.prog 13 = some true := by kernel_rfl
theorem sz13 : size? Try.prog 13 = some 2 := by kernel_rfl
theorem d13 {K : Value → Option R} : ld Try.prog h 13 b o K = (h.rd b o 2).bind fun l => K (.agg l.toArray) := ld_agS ag13 sz13
theorem w13 {K : H → Option R} : st Try.prog h 13 b o v K = (wrc 2 h b o v).bind K := st_S sz13
theorem ag14 : aggT Try.prog 14 = some true := by kernel_rfl
theorem sz14 : size? Try.prog 14 = some 2 := by kernel_rfl
theorem d14 {K : Value → Option R} : ld Try.prog h 14 b o K = (h.rd b o 2).bind fun l => K (.agg l.toArray) := ld_agS ag14 sz14
theorem w14 {K : H → Option R} : st Try.prog h 14 b o v K = (wrc 2 h b o v).bind K := st_S sz14
theorem ag15 : aggT Try.prog 15 = some false := by kernel_rfl
theorem sz15 : size? Try.prog 15 = some 1 := by kernel_rfl
theorem d15 {K : Value → Option R} : ld Try.prog h 15 b o K = (h.cell b o).bind K := ld_scS ag15
theorem w15 {K : H → Option R} : st Try.prog h 15 b o v K = (wrc 1 h b o v).bind K := st_S sz15
theorem ag16 : aggT Try.prog 16 = some false := by kernel_rfl
theorem sz16 : size? Try.prog 16 = some 1 := by kernel_rfl
theorem d16 {K : Value → Option R} : ld Try.prog h 16 b o K = (h.cell b o).bind K := ld_scS ag16
theorem w16 {K : H → Option R} : st Try.prog h 16 b o v K = (wrc 1 h b o v).bind K := st_S sz16
theorem ag17 : aggT Try.prog 17 = some false := by kernel_rfl
theorem sz17 : size? Try.prog 17 = some 1 := by kernel_rfl
theorem d17 {K : Value → Option R} : ld Try.prog h 17 b o K = (h.cell b o).bind K := ld_scS ag17
theorem w17 {K : H → Option R} : st Try.prog h 17 b o v K = (wrc 1 h b o v).bind K := st_S sz17
theorem ag18 : aggT Try.prog 18 = some true := by kernel_rfl
theorem sz18 : size? Try.prog 18 = some 1 := by kernel_rfl
theorem d18 {K : Value → Option R} : ld Try.prog h 18 b o K = (h.rd b o 1).bind fun l => K (.agg l.toArray) := ld_agS ag18 sz18
theorem w18 {K : H → Option R} : st Try.prog h 18 b o v K = (wrc 1 h b o v).bind K := st_S sz18
theorem ag19 : aggT Try.prog 19 = some true := by kernel_rfl
theorem sz19 : size? Try.prog 19 = some 1 := by kernel_rfl
theorem d19 {K : Value → Option R} : ld Try.prog h 19 b o K = (h.rd b o 1).bind fun l => K (.agg l.toArray) := ld_agS ag19 sz19
theorem w19 {K : H → Option R} : st Try.prog h 19 b o v K = (wrc 1 h b o v).bind K := st_S sz19
theorem ag20 : aggT Try.prog 20 = some false := by kernel_rfl
theorem sz20 : size? Try.prog 20 = some 1 := by kernel_rfl
theorem d20 {K : Value → Option R} : ld Try.prog h 20 b o K = (h.cell b o).bind K := ld_scS ag20
theorem w20 {K : H → Option R} : st Try.prog h 20 b o v K = (wrc 1 h b o v).bind K := st_S sz20
theorem ag21 : aggT Try.prog 21 = some false := by kernel_rfl
theorem sz21 : size? Try.prog 21 = some 1 := by kernel_rfl
theorem d21 {K : Value → Option R} : ld Try.prog h 21 b o K = (h.cell b o).bind K := ld_scS ag21
theorem w21 {K : H → Option R} : st Try.prog h 21 b o v K = (wrc 1 h b o v).bind K := st_S sz21
theorem ag22 : aggT Try.prog 22 = some false := by kernel_rfl
theorem sz22 : size? Try.prog 22 = some 1 := by kernel_rfl
theorem d22 {K : Value → Option R} : ld Try.prog h 22 b o K = (h.cell b o).bind K := ld_scS ag22
theorem w22 {K : H → Option R} : st Try.prog h 22 b o v K = (wrc 1 h b o v).bind K := st_S sz22
theorem ag23 : aggT Try.prog 23 = some false := by kernel_rfl
theorem sz23 : size? Try.prog 23 = some 1 := by kernel_rfl
theorem d23 {K : Value → Option R} : ld Try.prog h 23 b o K = (h.cell b o).bind K := ld_scS ag23
theorem w23 {K : H → Option R} : st Try.prog h 23 b o v K = (wrc 1 h b o v).bind K := st_S sz23
theorem ag24 : aggT Try.prog 24 = some false := by kernel_rfl
theorem sz24 : size? Try.prog 24 = some 1 := by kernel_rfl
theorem d24 {K : Value → Option R} : ld Try.prog h 24 b o K = (h.cell b o).bind K := ld_scS ag24
theorem w24 {K : H → Option R} : st Try.prog h 24 b o v K = (wrc 1 h b o v).bind K := st_S sz24
theorem ag25 : aggT Try.prog 25 = some false := by kernel_rfl
theorem sz25 : size? Try.prog 25 = some 1 := by kernel_rfl
theorem d25 {K : Value → Option R} : ld Try.prog h 25 b o K = (h.cell b o).bind K := ld_scS ag25
theorem w25 {K : H → Option R} : st Try.prog h 25 b o v K = (wrc 1 h b o v).bind K := st_S sz25
theorem ag26 : aggT Try.prog 26 = some false := by kernel_rfl
theorem sz26 : size? Try.prog 26 = some 1 := by kernel_rfl
theorem d26 {K : Value → Option R} : ld Try.prog h 26 b o K = (h.cell b o).bind K := ld_scS ag26
theorem w26 {K : H → Option R} : st Try.prog h 26 b o v K = (wrc 1 h b o v).bind K := st_S sz26
theorem ag27 : aggT Try.prog 27 = some false := by kernel_rfl
theorem sz27 : size? Try.prog 27 = some 1 := by kernel_rfl
theorem d27 {K : Value → Option R} : ld Try.prog h 27 b o K = (h.cell b o).bind K := ld_scS ag27
theorem w27 {K : H → Option R} : st Try.prog h 27 b o v K = (wrc 1 h b o v).bind K := st_S sz27
theorem ag28 : aggT Try.prog 28 = some false := by kernel_rfl
theorem sz28 : size? Try.prog 28 = some 1 := by kernel_rfl
theorem d28 {K : Value → Option R} : ld Try.prog h 28 b o K = (h.cell b o).bind K := ld_scS ag28
theorem w28 {K : H → Option R} : st Try.prog h 28 b o v K = (wrc 1 h b o v).bind K := st_S sz28
theorem ag29 : aggT Try.prog 29 = some false := by kernel_rfl
theorem sz29 : size? Try.prog 29 = some 1 := by kernel_rfl
theorem d29 {K : Value → Option R} : ld Try.prog h 29 b o K = (h.cell b o).bind K := ld_scS ag29
theorem w29 {K : H → Option R} : st Try.prog h 29 b o v K = (wrc 1 h b o v).bind K := st_S sz29
theorem ag30 : aggT Try.prog 30 = some true := by kernel_rfl
theorem sz30 : size? Try.prog 30 = some 2 := by kernel_rfl
theorem d30 {K : Value → Option R} : ld Try.prog h 30 b o K = (h.rd b o 2).bind fun l => K (.agg l.toArray) := ld_agS ag30 sz30
theorem w30 {K : H → Option R} : st Try.prog h 30 b o v K = (wrc 2 h b o v).bind K := st_S sz30
theorem ag31 : aggT Try.prog 31 = some true := by kernel_rfl
theorem sz31 : size? Try.prog 31 = some 2 := by kernel_rfl
theorem d31 {K : Value → Option R} : ld Try.prog h 31 b o K = (h.rd b o 2).bind fun l => K (.agg l.toArray) := ld_agS ag31 sz31
theorem w31 {K : H → Option R} : st Try.prog h 31 b o v K = (wrc 2 h b o v).bind K := st_S sz31
theorem ag32 : aggT Try.prog 32 = some false := by kernel_rfl
theorem sz32 : size? Try.prog 32 = some 1 := by kernel_rfl
theorem d32 {K : Value → Option R} : ld Try.prog h 32 b o K = (h.cell b o).bind K := ld_scS ag32
theorem w32 {K : H → Option R} : st Try.prog h 32 b o v K = (wrc 1 h b o v).bind K := st_S sz32
theorem ag33 : aggT Try.prog 33 = some false := by kernel_rfl
theorem sz33 : size? Try.prog 33 = some 1 := by kernel_rfl
theorem d33 {K : Value → Option R} : ld Try.prog h 33 b o K = (h.cell b o).bind K := ld_scS ag33
theorem w33 {K : H → Option R} : st Try.prog h 33 b o v K = (wrc 1 h b o v).bind K := st_S sz33
theorem ag34 : aggT Try.prog 34 = some false := by kernel_rfl
theorem sz34 : size? Try.prog 34 = some 1 := by kernel_rfl
theorem d34 {K : Value → Option R} : ld Try.prog h 34 b o K = (h.cell b o).bind K := ld_scS ag34
theorem w34 {K : H → Option R} : st Try.prog h 34 b o v K = (wrc 1 h b o v).bind K := st_S sz34
theorem ag35 : aggT Try.prog 35 = some false := by kernel_rfl
theorem sz35 : size? Try.prog 35 = some 1 := by kernel_rfl
theorem d35 {K : Value → Option R} : ld Try.prog h 35 b o K = (h.cell b o).bind K := ld_scS ag35
theorem w35 {K : H → Option R} : st Try.prog h 35 b o v K = (wrc 1 h b o v).bind K := st_S sz35
theorem ag36 : aggT Try.prog 36 = some false := by kernel_rfl
theorem sz36 : size? Try.prog 36 = some 1 := by kernel_rfl
theorem d36 {K : Value → Option R} : ld Try.prog h 36 b o K = (h.cell b o).bind K := ld_scS ag36
theorem w36 {K : H → Option R} : st Try.prog h 36 b o v K = (wrc 1 h b o v).bind K := st_S sz36
theorem ag37 : aggT Try.prog 37 = some false := by kernel_rfl
theorem sz37 : size? Try.prog 37 = some 1 := by kernel_rfl
theorem d37 {K : Value → Option R} : ld Try.prog h 37 b o K = (h.cell b o).bind K := ld_scS ag37
theorem w37 {K : H → Option R} : st Try.prog h 37 b o v K = (wrc 1 h b o v).bind K := st_S sz37
theorem ag38 : aggT Try.prog 38 = some false := by kernel_rfl
theorem sz38 : size? Try.prog 38 = some 1 := by kernel_rfl
theorem d38 {K : Value → Option R} : ld Try.prog h 38 b o K = (h.cell b o).bind K := ld_scS ag38
theorem w38 {K : H → Option R} : st Try.prog h 38 b o v K = (wrc 1 h b o v).bind K := st_S sz38
theorem ag39 : aggT Try.prog 39 = some false := by kernel_rfl
theorem sz39 : size? Try.prog 39 = some 1 := by kernel_rfl
theorem d39 {K : Value → Option R} : ld Try.prog h 39 b o K = (h.cell b o).bind K := ld_scS ag39
theorem w39 {K : H → Option R} : st Try.prog h 39 b o v K = (wrc 1 h b o v).bind K := st_S sz39
theorem ag40 : aggT Try.prog 40 = some false := by kernel_rfl
theorem sz40 : size? Try.prog 40 = some 1 := by kernel_rfl
theorem d40 {K : Value → Option R} : ld Try.prog h 40 b o K = (h.cell b o).bind K := ld_scS ag40
theorem w40 {K : H → Option R} : st Try.prog h 40 b o v K = (wrc 1 h b o v).bind K := st_S sz40
theorem ag41 : aggT Try.prog 41 = some false := by kernel_rfl
theorem sz41 : size? Try.prog 41 = some 1 := by kernel_rfl
theorem d41 {K : Value → Option R} : ld Try.prog h 41 b o K = (h.cell b o).bind K := ld_scS ag41
theorem w41 {K : H → Option R} : st Try.prog h 41 b o v K = (wrc 1 h b o v).bind K := st_S sz41
theorem ag42 : aggT Try.prog 42 = some false := by kernel_rfl
theorem sz42 : size? Try.prog 42 = some 1 := by kernel_rfl
theorem d42 {K : Value → Option R} : ld Try.prog h 42 b o K = (h.cell b o).bind K := ld_scS ag42
theorem w42 {K : H → Option R} : st Try.prog h 42 b o v K = (wrc 1 h b o v).bind K := st_S sz42
theorem ag43 : aggT Try.prog 43 = some false := by kernel_rfl
theorem sz43 : size? Try.prog 43 = some 1 := by kernel_rfl
theorem d43 {K : Value → Option R} : ld Try.prog h 43 b o K = (h.cell b o).bind K := ld_scS ag43
theorem w43 {K : H → Option R} : st Try.prog h 43 b o v K = (wrc 1 h b o v).bind K := st_S sz43
theorem ag44 : aggT Try.prog 44 = some false := by kernel_rfl
theorem sz44 : size? Try.prog 44 = some 1 := by kernel_rfl
theorem d44 {K : Value → Option R} : ld Try.prog h 44 b o K = (h.cell b o).bind K := ld_scS ag44
theorem w44 {K : H → Option R} : st Try.prog h 44 b o v K = (wrc 1 h b o v).bind K := st_S sz44
theorem ag45 : aggT Try.prog 45 = some false := by kernel_rfl
theorem sz45 : size? Try.prog 45 = some 1 := by kernel_rfl
theorem d45 {K : Value → Option R} : ld Try.prog h 45 b o K = (h.cell b o).bind K := ld_scS ag45
theorem w45 {K : H → Option R} : st Try.prog h 45 b o v K = (wrc 1 h b o v).bind K := st_S sz45
theorem ag46 : aggT Try.prog 46 = some true := by kernel_rfl
theorem sz46 : size? Try.prog 46 = some 3 := by kernel_rfl
theorem d46 {K : Value → Option R} : ld Try.prog h 46 b o K = (h.rd b o 3).bind fun l => K (.agg l.toArray) := ld_agS ag46 sz46
theorem w46 {K : H → Option R} : st Try.prog h 46 b o v K = (wrc 3 h b o v).bind K := st_S sz46
theorem ag47 : aggT Try.prog 47 = some true := by kernel_rfl
theorem sz47 : size? Try.prog 47 = some 3 := by kernel_rfl
theorem d47 {K : Value → Option R} : ld Try.prog h 47 b o K = (h.rd b o 3).bind fun l => K (.agg l.toArray) := ld_agS ag47 sz47
theorem w47 {K : H → Option R} : st Try.prog h 47 b o v K = (wrc 3 h b o v).bind K := st_S sz47
theorem ag48 : aggT Try.prog 48 = some false := by kernel_rfl
theorem sz48 : size? Try.prog 48 = some 1 := by kernel_rfl
theorem d48 {K : Value → Option R} : ld Try.prog h 48 b o K = (h.cell b o).bind K := ld_scS ag48
theorem w48 {K : H → Option R} : st Try.prog h 48 b o v K = (wrc 1 h b o v).bind K := st_S sz48
theorem ag49 : aggT Try.prog 49 = some false := by kernel_rfl
theorem sz49 : size? Try.prog 49 = some 1 := by kernel_rfl
theorem d49 {K : Value → Option R} : ld Try.prog h 49 b o K = (h.cell b o).bind K := ld_scS ag49
theorem w49 {K : H → Option R} : st Try.prog h 49 b o v K = (wrc 1 h b o v).bind K := st_S sz49
theorem ag50 : aggT Try.prog 50 = some false := by kernel_rfl
theorem sz50 : size? Try.prog 50 = some 1 := by kernel_rfl
theorem d50 {K : Value → Option R} : ld Try.prog h 50 b o K = (h.cell b o).bind K := ld_scS ag50
theorem w50 {K : H → Option R} : st Try.prog h 50 b o v K = (wrc 1 h b o v).bind K := st_S sz50
theorem ag51 : aggT Try.prog 51 = some true := by kernel_rfl
theorem sz51 : size? Try.prog 51 = some 3 := by kernel_rfl
theorem d51 {K : Value → Option R} : ld Try.prog h 51 b o K = (h.rd b o 3).bind fun l => K (.agg l.toArray) := ld_agS ag51 sz51
theorem w51 {K : H → Option R} : st Try.prog h 51 b o v K = (wrc 3 h b o v).bind K := st_S sz51
theorem ag52 : aggT Try.prog 52 = some true := by kernel_rfl
theorem sz52 : size? Try.prog 52 = some 3 := by kernel_rfl
theorem d52 {K : Value → Option R} : ld Try.prog h 52 b o K = (h.rd b o 3).bind fun l => K (.agg l.toArray) := ld_agS ag52 sz52
theorem w52 {K : H → Option R} : st Try.prog h 52 b o v K = (wrc 3 h b o v).bind K := st_S sz52
theorem ag53 : aggT Try.prog 53 = some false := by kernel_rfl
theorem sz53 : size? Try.prog 53 = some 1 := by kernel_rfl
theorem d53 {K : Value → Option R} : ld Try.prog h 53 b o K = (h.cell b o).bind K := ld_scS ag53
theorem w53 {K : H → Option R} : st Try.prog h 53 b o v K = (wrc 1 h b o v).bind K := st_S sz53
theorem ag54 : aggT Try.prog 54 = some false := by kernel_rfl
theorem sz54 : size? Try.prog 54 = some 1 := by kernel_rfl
theorem d54 {K : Value → Option R} : ld Try.prog h 54 b o K = (h.cell b o).bind K := ld_scS ag54
theorem w54 {K : H → Option R} : st Try.prog h 54 b o v K = (wrc 1 h b o v).bind K := st_S sz54
theorem ag55 : aggT Try.prog 55 = some false := by kernel_rfl
theorem sz55 : size? Try.prog 55 = some 1 := by kernel_rfl
theorem d55 {K : Value → Option R} : ld Try.prog h 55 b o K = (h.cell b o).bind K := ld_scS ag55
theorem w55 {K : H → Option R} : st Try.prog h 55 b o v K = (wrc 1 h b o v).bind K := st_S sz55
theorem ag56 : aggT Try.prog 56 = some false := by kernel_rfl
theorem sz56 : size? Try.prog 56 = some 1 := by kernel_rfl
theorem d56 {K : Value → Option R} : ld Try.prog h 56 b o K = (h.cell b o).bind K := ld_scS ag56
theorem w56 {K : H → Option R} : st Try.prog h 56 b o v K = (wrc 1 h b o v).bind K := st_S sz56
theorem ag57 : aggT Try.prog 57 = some false := by kernel_rfl
theorem sz57 : size? Try.prog 57 = some 1 := by kernel_rfl
theorem d57 {K : Value → Option R} : ld Try.prog h 57 b o K = (h.cell b o).bind K := ld_scS ag57
theorem w57 {K : H → Option R} : st Try.prog h 57 b o v K = (wrc 1 h b o v).bind K := st_S sz57
theorem ag58 : aggT Try.prog 58 = some false := by kernel_rfl
theorem sz58 : size? Try.prog 58 = some 1 := by kernel_rfl
theorem d58 {K : Value → Option R} : ld Try.prog h 58 b o K = (h.cell b o).bind K := ld_scS ag58
theorem w58 {K : H → Option R} : st Try.prog h 58 b o v K = (wrc 1 h b o v).bind K := st_S sz58
theorem ag59 : aggT Try.prog 59 = some false := by kernel_rfl
theorem sz59 : size? Try.prog 59 = some 1 := by kernel_rfl
theorem d59 {K : Value → Option R} : ld Try.prog h 59 b o K = (h.cell b o).bind K := ld_scS ag59
theorem w59 {K : H → Option R} : st Try.prog h 59 b o v K = (wrc 1 h b o v).bind K := st_S sz59
theorem ag60 : aggT Try.prog 60 = some false := by kernel_rfl
theorem sz60 : size? Try.prog 60 = some 1 := by kernel_rfl
theorem d60 {K : Value → Option R} : ld Try.prog h 60 b o K = (h.cell b o).bind K := ld_scS ag60
theorem w60 {K : H → Option R} : st Try.prog h 60 b o v K = (wrc 1 h b o v).bind K := st_S sz60
theorem ag61 : aggT Try.prog 61 = some false := by kernel_rfl
theorem sz61 : size? Try.prog 61 = some 1 := by kernel_rfl
theorem d61 {K : Value → Option R} : ld Try.prog h 61 b o K = (h.cell b o).bind K := ld_scS ag61
theorem w61 {K : H → Option R} : st Try.prog h 61 b o v K = (wrc 1 h b o v).bind K := st_S sz61
theorem ag62 : aggT Try.prog 62 = some false := by kernel_rfl
theorem sz62 : size? Try.prog 62 = some 1 := by kernel_rfl
theorem d62 {K : Value → Option R} : ld Try.prog h 62 b o K = (h.cell b o).bind K := ld_scS ag62
theorem w62 {K : H → Option R} : st Try.prog h 62 b o v K = (wrc 1 h b o v).bind K := st_S sz62
theorem ag63 : aggT Try.prog 63 = some false := by kernel_rfl
theorem sz63 : size? Try.prog 63 = some 1 := by kernel_rfl
theorem d63 {K : Value → Option R} : ld Try.prog h 63 b o K = (h.cell b o).bind K := ld_scS ag63
theorem w63 {K : H → Option R} : st Try.prog h 63 b o v K = (wrc 1 h b o v).bind K := st_S sz63
theorem ag64 : aggT Try.prog 64 = some false := by kernel_rfl
theorem sz64 : size? Try.prog 64 = some 1 := by kernel_rfl
theorem d64 {K : Value → Option R} : ld Try.prog h 64 b o K = (h.cell b o).bind K := ld_scS ag64
theorem w64 {K : H → Option R} : st Try.prog h 64 b o v K = (wrc 1 h b o v).bind K := st_S sz64
theorem ag65 : aggT Try.prog 65 = some false := by kernel_rfl
theorem sz65 : size? Try.prog 65 = some 1 := by kernel_rfl
theorem d65 {K : Value → Option R} : ld Try.prog h 65 b o K = (h.cell b o).bind K := ld_scS ag65
theorem w65 {K : H → Option R} : st Try.prog h 65 b o v K = (wrc 1 h b o v).bind K := st_S sz65
theorem ag66 : aggT Try.prog 66 = some true := by kernel_rfl
theorem sz66 : size? Try.prog 66 = some 4 := by kernel_rfl
theorem d66 {K : Value → Option R} : ld Try.prog h 66 b o K = (h.rd b o 4).bind fun l => K (.agg l.toArray) := ld_agS ag66 sz66
theorem w66 {K : H → Option R} : st Try.prog h 66 b o v K = (wrc 4 h b o v).bind K := st_S sz66
theorem ag67 : aggT Try.prog 67 = some true := by kernel_rfl
theorem sz67 : size? Try.prog 67 = some 4 := by kernel_rfl
theorem d67 {K : Value → Option R} : ld Try.prog h 67 b o K = (h.rd b o 4).bind fun l => K (.agg l.toArray) := ld_agS ag67 sz67
theorem w67 {K : H → Option R} : st Try.prog h 67 b o v K = (wrc 4 h b o v).bind K := st_S sz67
theorem ag68 : aggT Try.prog 68 = some false := by kernel_rfl
theorem sz68 : size? Try.prog 68 = some 1 := by kernel_rfl
theorem d68 {K : Value → Option R} : ld Try.prog h 68 b o K = (h.cell b o).bind K := ld_scS ag68
theorem w68 {K : H → Option R} : st Try.prog h 68 b o v K = (wrc 1 h b o v).bind K := st_S sz68
theorem ag69 : aggT Try.prog 69 = some false := by kernel_rfl
theorem sz69 : size? Try.prog 69 = some 1 := by kernel_rfl
theorem d69 {K : Value → Option R} : ld Try.prog h 69 b o K = (h.cell b o).bind K := ld_scS ag69
theorem w69 {K : H → Option R} : st Try.prog h 69 b o v K = (wrc 1 h b o v).bind K := st_S sz69
theorem ag70 : aggT Try.prog 70 = some false := by kernel_rfl
theorem sz70 : size? Try.prog 70 = some 1 := by kernel_rfl
theorem d70 {K : Value → Option R} : ld Try.prog h 70 b o K = (h.cell b o).bind K := ld_scS ag70
theorem w70 {K : H → Option R} : st Try.prog h 70 b o v K = (wrc 1 h b o v).bind K := st_S sz70
theorem ag71 : aggT Try.prog 71 = some false := by kernel_rfl
theorem sz71 : size? Try.prog 71 = some 1 := by kernel_rfl
theorem d71 {K : Value → Option R} : ld Try.prog h 71 b o K = (h.cell b o).bind K := ld_scS ag71
theorem w71 {K : H → Option R} : st Try.prog h 71 b o v K = (wrc 1 h b o v).bind K := st_S sz71
theorem ag72 : aggT Try.prog 72 = some false := by kernel_rfl
theorem sz72 : size? Try.prog 72 = some 1 := by kernel_rfl
theorem d72 {K : Value → Option R} : ld Try.prog h 72 b o K = (h.cell b o).bind K := ld_scS ag72
theorem w72 {K : H → Option R} : st Try.prog h 72 b o v K = (wrc 1 h b o v).bind K := st_S sz72
theorem ag73 : aggT Try.prog 73 = some false := by kernel_rfl
theorem sz73 : size? Try.prog 73 = some 1 := by kernel_rfl
theorem d73 {K : Value → Option R} : ld Try.prog h 73 b o K = (h.cell b o).bind K := ld_scS ag73
theorem w73 {K : H → Option R} : st Try.prog h 73 b o v K = (wrc 1 h b o v).bind K := st_S sz73
theorem ag74 : aggT Try.prog 74 = some false := by kernel_rfl
theorem sz74 : size? Try.prog 74 = some 1 := by kernel_rfl
theorem d74 {K : Value → Option R} : ld Try.prog h 74 b o K = (h.cell b o).bind K := ld_scS ag74
theorem w74 {K : H → Option R} : st Try.prog h 74 b o v K = (wrc 1 h b o v).bind K := st_S sz74
theorem ag75 : aggT Try.prog 75 = some true := by kernel_rfl
theorem sz75 : size? Try.prog 75 = some 3 := by kernel_rfl
theorem d75 {K : Value → Option R} : ld Try.prog h 75 b o K = (h.rd b o 3).bind fun l => K (.agg l.toArray) := ld_agS ag75 sz75
theorem w75 {K : H → Option R} : st Try.prog h 75 b o v K = (wrc 3 h b o v).bind K := st_S sz75
theorem ag76 : aggT Try.prog 76 = some true := by kernel_rfl
theorem sz76 : size? Try.prog 76 = some 3 := by kernel_rfl
theorem d76 {K : Value → Option R} : ld Try.prog h 76 b o K = (h.rd b o 3).bind fun l => K (.agg l.toArray) := ld_agS ag76 sz76
theorem w76 {K : H → Option R} : st Try.prog h 76 b o v K = (wrc 3 h b o v).bind K := st_S sz76
theorem ag77 : aggT Try.prog 77 = some false := by kernel_rfl
theorem sz77 : size? Try.prog 77 = some 1 := by kernel_rfl
theorem d77 {K : Value → Option R} : ld Try.prog h 77 b o K = (h.cell b o).bind K := ld_scS ag77
theorem w77 {K : H → Option R} : st Try.prog h 77 b o v K = (wrc 1 h b o v).bind K := st_S sz77
theorem ag78 : aggT Try.prog 78 = some false := by kernel_rfl
theorem sz78 : size? Try.prog 78 = some 1 := by kernel_rfl
theorem d78 {K : Value → Option R} : ld Try.prog h 78 b o K = (h.cell b o).bind K := ld_scS ag78
theorem w78 {K : H → Option R} : st Try.prog h 78 b o v K = (wrc 1 h b o v).bind K := st_S sz78
theorem ag79 : aggT Try.prog 79 = some false := by kernel_rfl
theorem sz79 : size? Try.prog 79 = some 1 := by kernel_rfl
theorem d79 {K : Value → Option R} : ld Try.prog h 79 b o K = (h.cell b o).bind K := ld_scS ag79
theorem w79 {K : H → Option R} : st Try.prog h 79 b o v K = (wrc 1 h b o v).bind K := st_S sz79
theorem ag80 : aggT Try.prog 80 = some false := by kernel_rfl
theorem sz80 : size? Try.prog 80 = some 1 := by kernel_rfl
theorem d80 {K : Value → Option R} : ld Try.prog h 80 b o K = (h.cell b o).bind K := ld_scS ag80
theorem w80 {K : H → Option R} : st Try.prog h 80 b o v K = (wrc 1 h b o v).bind K := st_S sz80
theorem ag81 : aggT Try.prog 81 = some false := by kernel_rfl
theorem sz81 : size? Try.prog 81 = some 1 := by kernel_rfl
theorem d81 {K : Value → Option R} : ld Try.prog h 81 b o K = (h.cell b o).bind K := ld_scS ag81
theorem w81 {K : H → Option R} : st Try.prog h 81 b o v K = (wrc 1 h b o v).bind K := st_S sz81
theorem ag82 : aggT Try.prog 82 = some false := by kernel_rfl
theorem sz82 : size? Try.prog 82 = some 1 := by kernel_rfl
theorem d82 {K : Value → Option R} : ld Try.prog h 82 b o K = (h.cell b o).bind K := ld_scS ag82
theorem w82 {K : H → Option R} : st Try.prog h 82 b o v K = (wrc 1 h b o v).bind K := st_S sz82
theorem ag83 : aggT Try.prog 83 = some false := by kernel_rfl
theorem sz83 : size? Try.prog 83 = some 1 := by kernel_rfl
theorem d83 {K : Value → Option R} : ld Try.prog h 83 b o K = (h.cell b o).bind K := ld_scS ag83
theorem w83 {K : H → Option R} : st Try.prog h 83 b o v K = (wrc 1 h b o v).bind K := st_S sz83
theorem ag84 : aggT Try.prog 84 = some false := by kernel_rfl
theorem sz84 : size? Try.prog 84 = some 1 := by kernel_rfl
theorem d84 {K : Value → Option R} : ld Try.prog h 84 b o K = (h.cell b o).bind K := ld_scS ag84
theorem w84 {K : H → Option R} : st Try.prog h 84 b o v K = (wrc 1 h b o v).bind K := st_S sz84
theorem ag85 : aggT Try.prog 85 = some false := by kernel_rfl
theorem sz85 : size? Try.prog 85 = some 1 := by kernel_rfl
theorem d85 {K : Value → Option R} : ld Try.prog h 85 b o K = (h.cell b o).bind K := ld_scS ag85
theorem w85 {K : H → Option R} : st Try.prog h 85 b o v K = (wrc 1 h b o v).bind K := st_S sz85
theorem ag86 : aggT Try.prog 86 = some false := by kernel_rfl
theorem sz86 : size? Try.prog 86 = some 1 := by kernel_rfl
theorem d86 {K : Value → Option R} : ld Try.prog h 86 b o K = (h.cell b o).bind K := ld_scS ag86
theorem w86 {K : H → Option R} : st Try.prog h 86 b o v K = (wrc 1 h b o v).bind K := st_S sz86
theorem ag87 : aggT Try.prog 87 = some true := by kernel_rfl
theorem sz87 : size? Try.prog 87 = some 5 := by kernel_rfl
theorem d87 {K : Value → Option R} : ld Try.prog h 87 b o K = (h.rd b o 5).bind fun l => K (.agg l.toArray) := ld_agS ag87 sz87
theorem w87 {K : H → Option R} : st Try.prog h 87 b o v K = (wrc 5 h b o v).bind K := st_S sz87
theorem ag88 : aggT Try.prog 88 = some true := by kernel_rfl
theorem sz88 : size? Try.prog 88 = some 5 := by kernel_rfl
theorem d88 {K : Value → Option R} : ld Try.prog h 88 b o K = (h.rd b o 5).bind fun l => K (.agg l.toArray) := ld_agS ag88 sz88
theorem w88 {K : H → Option R} : st Try.prog h 88 b o v K = (wrc 5 h b o v).bind K := st_S sz88
theorem ag89 : aggT Try.prog 89 = some true := by kernel_rfl
theorem sz89 : size? Try.prog 89 = some 4 := by kernel_rfl
theorem d89 {K : Value → Option R} : ld Try.prog h 89 b o K = (h.rd b o 4).bind fun l => K (.agg l.toArray) := ld_agS ag89 sz89
theorem w89 {K : H → Option R} : st Try.prog h 89 b o v K = (wrc 4 h b o v).bind K := st_S sz89
theorem ag90 : aggT Try.prog 90 = some false := by kernel_rfl
theorem sz90 : size? Try.prog 90 = some 1 := by kernel_rfl
theorem d90 {K : Value → Option R} : ld Try.prog h 90 b o K = (h.cell b o).bind K := ld_scS ag90
theorem w90 {K : H → Option R} : st Try.prog h 90 b o v K = (wrc 1 h b o v).bind K := st_S sz90
theorem ag91 : aggT Try.prog 91 = some false := by kernel_rfl
theorem sz91 : size? Try.prog 91 = some 1 := by kernel_rfl
theorem d91 {K : Value → Option R} : ld Try.prog h 91 b o K = (h.cell b o).bind K := ld_scS ag91
theorem w91 {K : H → Option R} : st Try.prog h 91 b o v K = (wrc 1 h b o v).bind K := st_S sz91
theorem ag92 : aggT Try.prog 92 = some false := by kernel_rfl
theorem sz92 : size? Try.prog 92 = some 1 := by kernel_rfl
theorem d92 {K : Value → Option R} : ld Try.prog h 92 b o K = (h.cell b o).bind K := ld_scS ag92
theorem w92 {K : H → Option R} : st Try.prog h 92 b o v K = (wrc 1 h b o v).bind K := st_S sz92
theorem ag93 : aggT Try.prog 93 = some false := by kernel_rfl
theorem sz93 : size? Try.prog 93 = some 1 := by kernel_rfl
theorem d93 {K : Value → Option R} : ld Try.prog h 93 b o K = (h.cell b o).bind K := ld_scS ag93
theorem w93 {K : H → Option R} : st Try.prog h 93 b o v K = (wrc 1 h b o v).bind K := st_S sz93
theorem ag94 : aggT Try.prog 94 = some false := by kernel_rfl
theorem sz94 : size? Try.prog 94 = some 1 := by kernel_rfl
theorem d94 {K : Value → Option R} : ld Try.prog h 94 b o K = (h.cell b o).bind K := ld_scS ag94
theorem w94 {K : H → Option R} : st Try.prog h 94 b o v K = (wrc 1 h b o v).bind K := st_S sz94
theorem ag95 : aggT Try.prog 95 = some false := by kernel_rfl
theorem sz95 : size? Try.prog 95 = some 1 := by kernel_rfl
theorem d95 {K : Value → Option R} : ld Try.prog h 95 b o K = (h.cell b o).bind K := ld_scS ag95
theorem w95 {K : H → Option R} : st Try.prog h 95 b o v K = (wrc 1 h b o v).bind K := st_S sz95
theorem ag96 : aggT Try.prog 96 = some false := by kernel_rfl
theorem sz96 : size? Try.prog 96 = some 1 := by kernel_rfl
theorem d96 {K : Value → Option R} : ld Try.prog h 96 b o K = (h.cell b o).bind K := ld_scS ag96
theorem w96 {K : H → Option R} : st Try.prog h 96 b o v K = (wrc 1 h b o v).bind K := st_S sz96
theorem ag97 : aggT Try.prog 97 = some false := by kernel_rfl
theorem sz97 : size? Try.prog 97 = some 1 := by kernel_rfl
theorem d97 {K : Value → Option R} : ld Try.prog h 97 b o K = (h.cell b o).bind K := ld_scS ag97
theorem w97 {K : H → Option R} : st Try.prog h 97 b o v K = (wrc 1 h b o v).bind K := st_S sz97
theorem ag98 : aggT Try.prog 98 = some false := by kernel_rfl
theorem sz98 : size? Try.prog 98 = some 1 := by kernel_rfl
theorem d98 {K : Value → Option R} : ld Try.prog h 98 b o K = (h.cell b o).bind K := ld_scS ag98
theorem w98 {K : H → Option R} : st Try.prog h 98 b o v K = (wrc 1 h b o v).bind K := st_S sz98
theorem ag99 : aggT Try.prog 99 = some false := by kernel_rfl
theorem sz99 : size? Try.prog 99 = some 1 := by kernel_rfl
theorem d99 {K : Value → Option R} : ld Try.prog h 99 b o K = (h.cell b o).bind K := ld_scS ag99
theorem w99 {K : H → Option R} : st Try.prog h 99 b o v K = (wrc 1 h b o v).bind K := st_S sz99
theorem ag100 : aggT Try.prog 100 = some false := by kernel_rfl
theorem sz100 : size? Try.prog 100 = some 1 := by kernel_rfl
theorem d100 {K : Value → Option R} : ld Try.prog h 100 b o K = (h.cell b o).bind K := ld_scS ag100
theorem w100 {K : H → Option R} : st Try.prog h 100 b o v K = (wrc 1 h b o v).bind K := st_S sz100
theorem ag101 : aggT Try.prog 101 = some false := by kernel_rfl
theorem sz101 : size? Try.prog 101 = some 1 := by kernel_rfl
theorem d101 {K : Value → Option R} : ld Try.prog h 101 b o K = (h.cell b o).bind K := ld_scS ag101
theorem w101 {K : H → Option R} : st Try.prog h 101 b o v K = (wrc 1 h b o v).bind K := st_S sz101
theorem ag102 : aggT Try.prog 102 = some false := by kernel_rfl
theorem sz102 : size? Try.prog 102 = some 1 := by kernel_rfl
theorem d102 {K : Value → Option R} : ld Try.prog h 102 b o K = (h.cell b o).bind K := ld_scS ag102
theorem w102 {K : H → Option R} : st Try.prog h 102 b o v K = (wrc 1 h b o v).bind K := st_S sz102
theorem ag103 : aggT Try.prog 103 = some false := by kernel_rfl
theorem sz103 : size? Try.prog 103 = some 1 := by kernel_rfl
theorem d103 {K : Value → Option R} : ld Try.prog h 103 b o K = (h.cell b o).bind K := ld_scS ag103
theorem w103 {K : H → Option R} : st Try.prog h 103 b o v K = (wrc 1 h b o v).bind K := st_S sz103
theorem ag104 : aggT Try.prog 104 = some false := by kernel_rfl
theorem sz104 : size? Try.prog 104 = some 1 := by kernel_rfl
theorem d104 {K : Value → Option R} : ld Try.prog h 104 b o K = (h.cell b o).bind K := ld_scS ag104
theorem w104 {K : H → Option R} : st Try.prog h 104 b o v K = (wrc 1 h b o v).bind K := st_S sz104
theorem ag105 : aggT Try.prog 105 = some false := by kernel_rfl
theorem sz105 : size? Try.prog 105 = some 1 := by kernel_rfl
theorem d105 {K : Value → Option R} : ld Try.prog h 105 b o K = (h.cell b o).bind K := ld_scS ag105
theorem w105 {K : H → Option R} : st Try.prog h 105 b o v K = (wrc 1 h b o v).bind K := st_S sz105
theorem ag106 : aggT Try.prog 106 = some false := by kernel_rfl
theorem sz106 : size? Try.prog 106 = some 1 := by kernel_rfl
theorem d106 {K : Value → Option R} : ld Try.prog h 106 b o K = (h.cell b o).bind K := ld_scS ag106
theorem w106 {K : H → Option R} : st Try.prog h 106 b o v K = (wrc 1 h b o v).bind K := st_S sz106
theorem ag107 : aggT Try.prog 107 = some false := by kernel_rfl
theorem sz107 : size? Try.prog 107 = some 1 := by kernel_rfl
theorem d107 {K : Value → Option R} : ld Try.prog h 107 b o K = (h.cell b o).bind K := ld_scS ag107
theorem w107 {K : H → Option R} : st Try.prog h 107 b o v K = (wrc 1 h b o v).bind K := st_S sz107
theorem ag108 : aggT Try.prog 108 = some false := by kernel_rfl
theorem sz108 : size? Try.prog 108 = some 1 := by kernel_rfl
theorem d108 {K : Value → Option R} : ld Try.prog h 108 b o K = (h.cell b o).bind K := ld_scS ag108
theorem w108 {K : H → Option R} : st Try.prog h 108 b o v K = (wrc 1 h b o v).bind K := st_S sz108
theorem ag109 : aggT Try.prog 109 = some false := by kernel_rfl
theorem sz109 : size? Try.prog 109 = some 1 := by kernel_rfl
theorem d109 {K : Value → Option R} : ld Try.prog h 109 b o K = (h.cell b o).bind K := ld_scS ag109
theorem w109 {K : H → Option R} : st Try.prog h 109 b o v K = (wrc 1 h b o v).bind K := st_S sz109
theorem ag110 : aggT Try.prog 110 = some false := by kernel_rfl
theorem sz110 : size? Try.prog 110 = some 1 := by kernel_rfl
theorem d110 {K : Value → Option R} : ld Try.prog h 110 b o K = (h.cell b o).bind K := ld_scS ag110
theorem w110 {K : H → Option R} : st Try.prog h 110 b o v K = (wrc 1 h b o v).bind K := st_S sz110
theorem ag111 : aggT Try.prog 111 = some false := by kernel_rfl
theorem sz111 : size? Try.prog 111 = some 1 := by kernel_rfl
theorem d111 {K : Value → Option R} : ld Try.prog h 111 b o K = (h.cell b o).bind K := ld_scS ag111
theorem w111 {K : H → Option R} : st Try.prog h 111 b o v K = (wrc 1 h b o v).bind K := st_S sz111
theorem ag112 : aggT Try.prog 112 = some false := by kernel_rfl
theorem sz112 : size? Try.prog 112 = some 1 := by kernel_rfl
theorem d112 {K : Value → Option R} : ld Try.prog h 112 b o K = (h.cell b o).bind K := ld_scS ag112
theorem w112 {K : H → Option R} : st Try.prog h 112 b o v K = (wrc 1 h b o v).bind K := st_S sz112
theorem ag113 : aggT Try.prog 113 = some false := by kernel_rfl
theorem sz113 : size? Try.prog 113 = some 1 := by kernel_rfl
theorem d113 {K : Value → Option R} : ld Try.prog h 113 b o K = (h.cell b o).bind K := ld_scS ag113
theorem w113 {K : H → Option R} : st Try.prog h 113 b o v K = (wrc 1 h b o v).bind K := st_S sz113
theorem ag114 : aggT Try.prog 114 = some false := by kernel_rfl
theorem sz114 : size? Try.prog 114 = some 1 := by kernel_rfl
theorem d114 {K : Value → Option R} : ld Try.prog h 114 b o K = (h.cell b o).bind K := ld_scS ag114
theorem w114 {K : H → Option R} : st Try.prog h 114 b o v K = (wrc 1 h b o v).bind K := st_S sz114
theorem ag115 : aggT Try.prog 115 = some false := by kernel_rfl
theorem sz115 : size? Try.prog 115 = some 1 := by kernel_rfl
theorem d115 {K : Value → Option R} : ld Try.prog h 115 b o K = (h.cell b o).bind K := ld_scS ag115
theorem w115 {K : H → Option R} : st Try.prog h 115 b o v K = (wrc 1 h b o v).bind K := st_S sz115
theorem ag116 : aggT Try.prog 116 = some false := by kernel_rfl
theorem sz116 : size? Try.prog 116 = some 1 := by kernel_rfl
theorem d116 {K : Value → Option R} : ld Try.prog h 116 b o K = (h.cell b o).bind K := ld_scS ag116
theorem w116 {K : H → Option R} : st Try.prog h 116 b o v K = (wrc 1 h b o v).bind K := st_S sz116
theorem ag117 : aggT Try.prog 117 = some false := by kernel_rfl
theorem sz117 : size? Try.prog 117 = some 1 := by kernel_rfl
theorem d117 {K : Value → Option R} : ld Try.prog h 117 b o K = (h.cell b o).bind K := ld_scS ag117
theorem w117 {K : H → Option R} : st Try.prog h 117 b o v K = (wrc 1 h b o v).bind K := st_S sz117
theorem ag118 : aggT Try.prog 118 = some false := by kernel_rfl
theorem sz118 : size? Try.prog 118 = some 1 := by kernel_rfl
theorem d118 {K : Value → Option R} : ld Try.prog h 118 b o K = (h.cell b o).bind K := ld_scS ag118
theorem w118 {K : H → Option R} : st Try.prog h 118 b o v K = (wrc 1 h b o v).bind K := st_S sz118
theorem ag119 : aggT Try.prog 119 = some false := by kernel_rfl
theorem sz119 : size? Try.prog 119 = some 1 := by kernel_rfl
theorem d119 {K : Value → Option R} : ld Try.prog h 119 b o K = (h.cell b o).bind K := ld_scS ag119
theorem w119 {K : H → Option R} : st Try.prog h 119 b o v K = (wrc 1 h b o v).bind K := st_S sz119
theorem ag120 : aggT Try.prog 120 = some false := by kernel_rfl
theorem sz120 : size? Try.prog 120 = some 1 := by kernel_rfl
theorem d120 {K : Value → Option R} : ld Try.prog h 120 b o K = (h.cell b o).bind K := ld_scS ag120
theorem w120 {K : H → Option R} : st Try.prog h 120 b o v K = (wrc 1 h b o v).bind K := st_S sz120
theorem ag121 : aggT Try.prog 121 = some false := by kernel_rfl
theorem sz121 : size? Try.prog 121 = some 1 := by kernel_rfl
theorem d121 {K : Value → Option R} : ld Try.prog h 121 b o K = (h.cell b o).bind K := ld_scS ag121
theorem w121 {K : H → Option R} : st Try.prog h 121 b o v K = (wrc 1 h b o v).bind K := st_S sz121
theorem ag122 : aggT Try.prog 122 = some true := by kernel_rfl
theorem sz122 : size? Try.prog 122 = some 4 := by kernel_rfl
theorem d122 {K : Value → Option R} : ld Try.prog h 122 b o K = (h.rd b o 4).bind fun l => K (.agg l.toArray) := ld_agS ag122 sz122
theorem w122 {K : H → Option R} : st Try.prog h 122 b o v K = (wrc 4 h b o v).bind K := st_S sz122
theorem ag123 : aggT Try.prog 123 = some true := by kernel_rfl
theorem sz123 : size? Try.prog 123 = some 4 := by kernel_rfl
theorem d123 {K : Value → Option R} : ld Try.prog h 123 b o K = (h.rd b o 4).bind fun l => K (.agg l.toArray) := ld_agS ag123 sz123
theorem w123 {K : H → Option R} : st Try.prog h 123 b o v K = (wrc 4 h b o v).bind K := st_S sz123
theorem ag124 : aggT Try.prog 124 = some true := by kernel_rfl
theorem sz124 : size? Try.prog 124 = some 0 := by kernel_rfl
theorem d124 {K : Value → Option R} : ld Try.prog h 124 b o K = (h.rd b o 0).bind fun l => K (.agg l.toArray) := ld_agS ag124 sz124
theorem w124 {K : H → Option R} : st Try.prog h 124 b o v K = (wrc 0 h b o v).bind K := st_S sz124
theorem ag125 : aggT Try.prog 125 = some true := by kernel_rfl
theorem sz125 : size? Try.prog 125 = some 0 := by kernel_rfl
theorem d125 {K : Value → Option R} : ld Try.prog h 125 b o K = (h.rd b o 0).bind fun l => K (.agg l.toArray) := ld_agS ag125 sz125
theorem w125 {K : H → Option R} : st Try.prog h 125 b o v K = (wrc 0 h b o v).bind K := st_S sz125
theorem ag126 : aggT Try.prog 126 = some true := by kernel_rfl
theorem sz126 : size? Try.prog 126 = some 0 := by kernel_rfl
theorem d126 {K : Value → Option R} : ld Try.prog h 126 b o K = (h.rd b o 0).bind fun l => K (.agg l.toArray) := ld_agS ag126 sz126
theorem w126 {K : H → Option R} : st Try.prog h 126 b o v K = (wrc 0 h b o v).bind K := st_S sz126
theorem ag127 : aggT Try.prog 127 = some false := by kernel_rfl
theorem sz127 : size? Try.prog 127 = some 1 := by kernel_rfl
theorem d127 {K : Value → Option R} : ld Try.prog h 127 b o K = (h.cell b o).bind K := ld_scS ag127
theorem w127 {K : H → Option R} : st Try.prog h 127 b o v K = (wrc 1 h b o v).bind K := st_S sz127
theorem ag128 : aggT Try.prog 128 = some false := by kernel_rfl
theorem sz128 : size? Try.prog 128 = some 1 := by kernel_rfl
theorem d128 {K : Value → Option R} : ld Try.prog h 128 b o K = (h.cell b o).bind K := ld_scS ag128
theorem w128 {K : H → Option R} : st Try.prog h 128 b o v K = (wrc 1 h b o v).bind K := st_S sz128
theorem ag129 : aggT Try.prog 129 = some false := by kernel_rfl
theorem sz129 : size? Try.prog 129 = some 1 := by kernel_rfl
theorem d129 {K : Value → Option R} : ld Try.prog h 129 b o K = (h.cell b o).bind K := ld_scS ag129
theorem w129 {K : H → Option R} : st Try.prog h 129 b o v K = (wrc 1 h b o v).bind K := st_S sz129
theorem ag130 : aggT Try.prog 130 = some false := by kernel_rfl
theorem sz130 : size? Try.prog 130 = some 1 := by kernel_rfl
theorem d130 {K : Value → Option R} : ld Try.prog h 130 b o K = (h.cell b o).bind K := ld_scS ag130
theorem w130 {K : H → Option R} : st Try.prog h 130 b o v K = (wrc 1 h b o v).bind K := st_S sz130
theorem ag131 : aggT Try.prog 131 = some false := by kernel_rfl
theorem sz131 : size? Try.prog 131 = some 1 := by kernel_rfl
theorem d131 {K : Value → Option R} : ld Try.prog h 131 b o K = (h.cell b o).bind K := ld_scS ag131
theorem w131 {K : H → Option R} : st Try.prog h 131 b o v K = (wrc 1 h b o v).bind K := st_S sz131
theorem ag132 : aggT Try.prog 132 = some false := by kernel_rfl
theorem sz132 : size? Try.prog 132 = some 1 := by kernel_rfl
theorem d132 {K : Value → Option R} : ld Try.prog h 132 b o K = (h.cell b o).bind K := ld_scS ag132
theorem w132 {K : H → Option R} : st Try.prog h 132 b o v K = (wrc 1 h b o v).bind K := st_S sz132
theorem ag133 : aggT Try.prog 133 = some true := by kernel_rfl
theorem sz133 : size? Try.prog 133 = some 11 := by kernel_rfl
theorem d133 {K : Value → Option R} : ld Try.prog h 133 b o K = (h.rd b o 11).bind fun l => K (.agg l.toArray) := ld_agS ag133 sz133
theorem w133 {K : H → Option R} : st Try.prog h 133 b o v K = (wrc 11 h b o v).bind K := st_S sz133
theorem ag134 : aggT Try.prog 134 = some true := by kernel_rfl
theorem sz134 : size? Try.prog 134 = some 11 := by kernel_rfl
theorem d134 {K : Value → Option R} : ld Try.prog h 134 b o K = (h.rd b o 11).bind fun l => K (.agg l.toArray) := ld_agS ag134 sz134
theorem w134 {K : H → Option R} : st Try.prog h 134 b o v K = (wrc 11 h b o v).bind K := st_S sz134
theorem ag135 : aggT Try.prog 135 = some false := by kernel_rfl
theorem sz135 : size? Try.prog 135 = some 1 := by kernel_rfl
theorem d135 {K : Value → Option R} : ld Try.prog h 135 b o K = (h.cell b o).bind K := ld_scS ag135
theorem w135 {K : H → Option R} : st Try.prog h 135 b o v K = (wrc 1 h b o v).bind K := st_S sz135

end Go.AM
