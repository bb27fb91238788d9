/- From the abstract machine to a call of the model that leaves all that was there. -/
import Derived.Test.YthmfjfblndophaaAmDraw3
import Derived.Test.YthmfjfblndophaaAmSt
namespace Go.AM
open Go.RowKit

/-- A law's call: it returns true, and all that was there is as it was. -/
theorem law_calls {P : Program} {E : Env} (hmix : P.follows .mixedOrders = true) {n : Nat} {f : FuncId} {args args' : Array Value} {ι : Nat → Emb} {h h' : H} {w : World} {b : Bool}
    (hc : call P E n f args h = some (.bool b, h')) (hr : Rel P E ι h w) (ha : AR ι h.nx args args') (ho : ∀ i k, h.blk i = some k → k.own = false) :
    Calls P f args' w (fun e w' => e = .returned (.bool b) ∧ Below w.heap.size w w') := by
  refine ((sound hmix n).calls _ _ _ _ _ hc _ _ _ hr ha).mono ?_
  rintro e w' ⟨v', ι', rfl, tr, r, hv⟩
  refine ⟨?_, tr.os, tr.tape, tr.output, tr.size, fun g hg => tr.fr g hg fun i k hi hk => ?_⟩
  · cases hv; rfl
  · rw [ho i k hi] at hk; cases hk

/-- The empty heap stands for every world. -/
theorem rel_empty {P : Program} {E : Env} (hE : E.NG = 0) (w : World) : Rel P E (fun _ => ⟨0, 0, 0, 0⟩) ⟨fun _ => none, 0, 0⟩ w :=
  ⟨fun _ _ h => (by cases h), fun _ _ h => (by cases h), fun _ _ _ _ h => (by cases h), (by rw [hE]; exact Nat.le_refl _), fun _ h => (by omega), fun _ h => (by omega), fun _ _ h => (by omega)⟩

end Go.AM
