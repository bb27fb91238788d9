/- It is awake. -/
import Derived.Test.YtnhmgokjijlhbaaSx
namespace Go.AM
open Go.Proofs

variable {R : Type}

theorem s19 (h : H) : rn 19 #[] h = some (.bool true, h) := by
  have e : call Try.prog E0 60 19 #[] h = some (.bool true, h) := by kernel_rfl
  exact run_iso rfl e

theorem k19 (h : H) (K : Value → H → Option R) : calls rn h 19 [] K = K (.bool true) h := calls_eq (s19 h)

end Go.AM
