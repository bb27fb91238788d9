/- Parts of the proof, put together: what the functions of the program answer, and plain laws. -/
import Derived.Test.YtnhmgokjijlhbaaAmSim
import Derived.Test.YtnhmgokjijlhbaaProg
import Derived.KernelRfl

section

/- The seat's environment, what its types are, and calls in the end. -/
namespace Go.AM
open Go.Proofs
/-- No package-level variables; the calls that are made by themselves. -/
def E0 : Env := ⟨0, fun _ => none, fun f => f == 19⟩

noncomputable abbrev rn : Rec := run Try.prog E0

variable {R : Type} {h : H} {b o : Nat} {v : Value}
theorem ag0 : aggT Try.prog 0 = some false := by kernel_rfl

theorem sz0 : size? Try.prog 0 = some 1 := by kernel_rfl

theorem d0 {K : Value → Option R} : ld Try.prog h 0 b o K = (h.cell b o).bind K := ld_scS ag0

theorem w0 {K : H → Option R} : st Try.prog h 0 b o v K = (wrc 1 h b o v).bind K := st_S sz0

theorem ag1 : aggT Try.prog 1 = some false := by kernel_rfl

theorem sz1 : size? Try.prog 1 = some 1 := by kernel_rfl

theorem d1 {K : Value → Option R} : ld Try.prog h 1 b o K = (h.cell b o).bind K := ld_scS ag1

theorem w1 {K : H → Option R} : st Try.prog h 1 b o v K = (wrc 1 h b o v).bind K := st_S sz1

theorem ag2 : aggT Try.prog 2 = some false := by kernel_rfl

theorem sz2 : size? Try.prog 2 = some 1 := by kernel_rfl

theorem d2 {K : Value → Option R} : ld Try.prog h 2 b o K = (h.cell b o).bind K := ld_scS ag2

theorem w2 {K : H → Option R} : st Try.prog h 2 b o v K = (wrc 1 h b o v).bind K := st_S sz2

theorem ag3 : aggT Try.prog 3 = some false := by kernel_rfl

theorem sz3 : size? Try.prog 3 = some 1 := by kernel_rfl

theorem d3 {K : Value → Option R} : ld Try.prog h 3 b o K = (h.cell b o).bind K := ld_scS ag3

theorem w3 {K : H → Option R} : st Try.prog h 3 b o v K = (wrc 1 h b o v).bind K := st_S sz3

theorem ag4 : aggT Try.prog 4 = some false := by kernel_rfl

theorem d4 {K : Value → Option R} : ld Try.prog h 4 b o K = (h.cell b o).bind K := ld_scS ag4

theorem sz6 : size? Try.prog 6 = some 1 := by kernel_rfl

theorem w6 {K : H → Option R} : st Try.prog h 6 b o v K = (wrc 1 h b o v).bind K := st_S sz6

theorem ag22 : aggT Try.prog 22 = some false := by kernel_rfl

theorem sz22 : size? Try.prog 22 = some 1 := by kernel_rfl

theorem d22 {K : Value → Option R} : ld Try.prog h 22 b o K = (h.cell b o).bind K := ld_scS ag22

theorem w22 {K : H → Option R} : st Try.prog h 22 b o v K = (wrc 1 h b o v).bind K := st_S sz22

theorem ag27 : aggT Try.prog 27 = some false := by kernel_rfl

theorem sz27 : size? Try.prog 27 = some 1 := by kernel_rfl

theorem d27 {K : Value → Option R} : ld Try.prog h 27 b o K = (h.cell b o).bind K := ld_scS ag27

theorem w27 {K : H → Option R} : st Try.prog h 27 b o v K = (wrc 1 h b o v).bind K := st_S sz27

theorem ag31 : aggT Try.prog 31 = some true := by kernel_rfl

theorem sz31 : size? Try.prog 31 = some 2 := by kernel_rfl

theorem d31 {K : Value → Option R} : ld Try.prog h 31 b o K = (h.rd b o 2).bind fun l => K (.agg l.toArray) := ld_agS ag31 sz31

theorem w31 {K : H → Option R} : st Try.prog h 31 b o v K = (wrc 2 h b o v).bind K := st_S sz31

theorem ag45 : aggT Try.prog 45 = some false := by kernel_rfl

theorem sz45 : size? Try.prog 45 = some 1 := by kernel_rfl

theorem d45 {K : Value → Option R} : ld Try.prog h 45 b o K = (h.cell b o).bind K := ld_scS ag45

theorem w45 {K : H → Option R} : st Try.prog h 45 b o v K = (wrc 1 h b o v).bind K := st_S sz45

theorem ag47 : aggT Try.prog 47 = some true := by kernel_rfl

theorem sz47 : size? Try.prog 47 = some 3 := by kernel_rfl

theorem d47 {K : Value → Option R} : ld Try.prog h 47 b o K = (h.rd b o 3).bind fun l => K (.agg l.toArray) := ld_agS ag47 sz47

theorem w47 {K : H → Option R} : st Try.prog h 47 b o v K = (wrc 3 h b o v).bind K := st_S sz47

theorem ag50 : aggT Try.prog 50 = some false := by kernel_rfl

theorem sz50 : size? Try.prog 50 = some 1 := by kernel_rfl

theorem d50 {K : Value → Option R} : ld Try.prog h 50 b o K = (h.cell b o).bind K := ld_scS ag50

theorem w50 {K : H → Option R} : st Try.prog h 50 b o v K = (wrc 1 h b o v).bind K := st_S sz50

theorem ag52 : aggT Try.prog 52 = some true := by kernel_rfl

theorem sz52 : size? Try.prog 52 = some 3 := by kernel_rfl

theorem d52 {K : Value → Option R} : ld Try.prog h 52 b o K = (h.rd b o 3).bind fun l => K (.agg l.toArray) := ld_agS ag52 sz52

theorem w52 {K : H → Option R} : st Try.prog h 52 b o v K = (wrc 3 h b o v).bind K := st_S sz52

theorem ag60 : aggT Try.prog 60 = some false := by kernel_rfl

theorem sz60 : size? Try.prog 60 = some 1 := by kernel_rfl

theorem d60 {K : Value → Option R} : ld Try.prog h 60 b o K = (h.cell b o).bind K := ld_scS ag60

theorem w60 {K : H → Option R} : st Try.prog h 60 b o v K = (wrc 1 h b o v).bind K := st_S sz60

theorem ag67 : aggT Try.prog 67 = some true := by kernel_rfl

theorem sz67 : size? Try.prog 67 = some 4 := by kernel_rfl

theorem d67 {K : Value → Option R} : ld Try.prog h 67 b o K = (h.rd b o 4).bind fun l => K (.agg l.toArray) := ld_agS ag67 sz67

theorem ag88 : aggT Try.prog 88 = some true := by kernel_rfl

theorem sz88 : size? Try.prog 88 = some 5 := by kernel_rfl

theorem d88 {K : Value → Option R} : ld Try.prog h 88 b o K = (h.rd b o 5).bind fun l => K (.agg l.toArray) := ld_agS ag88 sz88

theorem ag89 : aggT Try.prog 89 = some true := by kernel_rfl

theorem sz89 : size? Try.prog 89 = some 4 := by kernel_rfl

theorem d89 {K : Value → Option R} : ld Try.prog h 89 b o K = (h.rd b o 4).bind fun l => K (.agg l.toArray) := ld_agS ag89 sz89

end Go.AM

end
