/- The busy call of each statement is a way in time. -/
import Derived.Test.YthmfjfblndophaaSeat
namespace Go.AM
open Go.Proofs

theorem awake_call (m : Nat) (h : H) : call Try.prog E0 (m + 60) 22 #[] h = some (.bool true, h) := by kernel_rfl

end Go.AM
