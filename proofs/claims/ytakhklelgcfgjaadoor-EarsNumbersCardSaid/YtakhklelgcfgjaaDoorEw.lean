/- It is awake: by the kernel's own run. -/
import Derived.Test.YtakhklelgcfgjaaDoorEa
namespace Go.AM
open Go.Proofs

noncomputable def awakeOk : Bool := match call Tryd.prog E0 60 20 #[] ⟨fun _ => none, 0, 0⟩ with
  | some (.bool b, _) => b
  | _ => false

theorem awake_run : awakeOk = true := by decide +kernel

theorem s20 (h : H) : rn 20 #[] h = some (.bool true, h) := by
  have ht := awake_run
  unfold awakeOk at ht
  split at ht
  · rename_i b h' hc
    subst ht
    exact run_iso (n := 59) (by rfl) (iso_any (by rfl) hc)
  · cases ht

end Go.AM
