/- From what a law answers in the end to a call of the model that leaves all that was there. -/
import Derived.Test.YthmfjfblndophaaAmRun
import Derived.Test.YthmfjfblndophaaAmLaw
namespace Go.AM
open Go.RowKit

/-- A law's call: it returns true, and all that was there is as it was. -/
theorem law_run {P : Program} {E : Env} (hmix : P.follows .mixedOrders = true) {f : FuncId} {args args' : Array Value} {ι : Nat → Emb} {h h' : H} {w : World} {b : Bool}
    (hc : run P E f args h = some (.bool b, h')) (hr : Rel P E ι h w) (ha : AR ι h.nx args args') (ho : ∀ i k, h.blk i = some k → k.own = false) :
    Calls P f args' w (fun e w' => e = .returned (.bool b) ∧ Below w.heap.size w w') := by
  refine ((run_sound hmix).calls _ _ _ _ _ hc _ _ _ hr ha).mono ?_
  rintro e w' ⟨v', ι', rfl, tr, r, hv⟩
  refine ⟨?_, tr.os, tr.tape, tr.output, tr.size, fun g hg => tr.fr g hg fun i k hi hk => ?_⟩
  · cases hv; rfl
  · rw [ho i k hi] at hk; cases hk

end Go.AM
