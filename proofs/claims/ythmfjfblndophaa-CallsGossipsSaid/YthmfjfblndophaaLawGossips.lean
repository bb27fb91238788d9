/- CallsGossips returns true, whatever it is handed, and changes nothing of it. Nothing is assumed. -/
import Derived.Test.YthmfjfblndophaaRows
import Derived.Test.YthmfjfblndophaaChecked
import Derived.Test.YthmfjfblndophaaCo
import Derived.Test.YthmfjfblndophaaLg
import Derived.Test.YthmfjfblndophaaAmLawR
import Derived.WalkKit
import Derived.ProofKit
import Derived.OpenShut
import Derived.ShutString
import Derived.ChangeOld
import Derived.Below
import Derived.SizedLaws
namespace Go.Proofs.Ythmfjfblndophaa.callsGossips
open Go.ChangeShapes Go.WideShapes Go.ChangeAt Go.RowKit Go.AM

theorem own : ownKnob Try.prog.godebug = none := by kernel_rfl
theorem laidOut : laidOutB Try.prog = true := by kernel_rfl

theorem walk {ι : Nat → Emb} {h : H} {W : World} {n0 : Int} {args : Array Value} (r : Rel Try.prog E0 ι h W) (hro : ∀ b k, h.blk b = some k → k.own = false)
     (ha : AR ι h.nx #[iv n0] args) :
    Calls Try.prog 5 args W (fun e w' => e = .returned (.bool true) ∧ Below W.heap.size W w') := by
  obtain ⟨h', e⟩ := s5 
  exact law_run (by kernel_rfl) e r ha hro

set_option maxRecDepth 100000 in
theorem lifted (os : Os) (started : os.Started) (H : Type) (enc : TypeId × Value → H) :
    ReturnsInHanded {} Try.checked os 5 .any (Rows.callsGossipsSpec.pre6 enc Try.prog Try.f5 Rows.callsGossipsRow.domain false) (Rows.callsGossipsSpec.post enc Try.prog Try.f5 false true false false) := by
  refine returnsInHanded_of_change_sized (C := Try.checked) own started (by kernel_rfl) Try.func5
    (ChangeSpec.witness6 (enc := enc) (C := Try.checked) false ⟨#[], #[.int .i64 0], []⟩ 8 (by kernel_rfl) (by kernel_rfl) (by kernel_rfl) (by kernel_rfl)) ?_
  intro W base args ds gs before hval0 hW hcnd hsz0 _
  have hsz : (DataW.weightsEach Try.prog (Try.f5.params.toList ++ Rows.callsGossipsSpec.plain.varTypes Try.prog) (ds ++ gs)).all (· ≤ reachBytes) = true := hsz0
  have hval : ∀ (j : Nat) t v, Try.f5.params[j]? = some t → args[j]? = some v → Value.okWide Try.prog W .any base t v := hval0
  have hW' := hW
  obtain ⟨p, q, hA0, hV, rfl, hfz, hnd⟩ := hW
  have hA : DataW.TrodAll enc Try.prog W 0 (fun _ => true) true Try.f5.params.toList args.toList ds p := hA0
  rw [Try.params5] at hA hval hsz
  obtain ⟨v0, vs0, d0, ds0, p0, q0, hargs, rfl, rfl, h0, r0⟩ := trodAll_cons hA
  obtain ⟨rfl, rfl, rfl⟩ := trodAll_nil r0
  obtain rfl : args = #[v0] := by cases args; simp_all
  obtain ⟨rfl, rfl⟩ := trodVars_none hV
  obtain ⟨z0, rfl, rfl, rfl, w0⟩ := open_int under3 (hval 0 3 v0 rfl rfl) h0
  clear hA0 hval0 hsz0 hsz
  have ha : AR (fun _ => ⟨0, 0, 0, 0⟩) 0 #[iv z0] #[.int .i64 z0] :=
    LR.toArray (.cons (VR.int .i64 z0) .nil)
  have hwalk := walk (n0 := z0) (rel_empty rfl W) (fun b k hb => by cases hb)  ha
  refine hwalk.mono fun e W' ⟨he, bel⟩ => ?_
  subst he
  exact ⟨_, rfl, _, _, _, [], _, [], hW', trodAll_mk1 (shut_bool Try.underlying4 _), (trodAll_cons_mk (shut_int under3 w0) trodAll_mk0), rfl, bel.frame _, fun h => by cases h⟩

theorem over : Rows.callsGossipsRow.holds Try.pinned (OpenSpec.ofChange Rows.callsGossipsSpec) :=
  OpenClaim.holds_of_wide 5 Try.f5 rfl rfl rfl rfl rfl rfl rfl ⟨rfl, rfl, rfl, rfl, rfl⟩ rfl rfl rfl rfl rfl (by kernel_rfl) Try.func5 (by kernel_rfl)
    (of_decide_eq_true (by kernel_rfl)) (by unfold Func.isWrapper; first | (rw [if_pos (by decide +kernel)]; kernel_rfl) | (rw [if_neg (by decide +kernel)]; exact ⟨rfl, rfl⟩))
    (fun os started H enc _ => lifted os started H enc)

theorem proved : Rows.CallsGossipsSaid := over

end Go.Proofs.Ythmfjfblndophaa.callsGossips
namespace Go.Proofs.Ythmfjfblndophaa
/-- The row, under a short name, for the claim. -/
theorem callsGossips_holds : Rows.CallsGossipsSaid := callsGossips.proved
#print axioms callsGossips_holds
end Go.Proofs.Ythmfjfblndophaa
