/- CallsWider returns true, whatever it is handed, and changes nothing of it. Nothing is assumed. -/
import Derived.Test.YthmfjfblndophaaRows
import Derived.Test.YthmfjfblndophaaChecked
import Derived.Test.YthmfjfblndophaaWe7
import Derived.WalkKit
import Derived.ProofKit
import Derived.OpenShut
import Derived.ShutString
import Derived.ChangeOld
import Derived.Below
import Derived.SizedLaws
namespace Go.Proofs.Ythmfjfblndophaa.callsWider
open Go.ChangeShapes Go.WideShapes Go.ChangeAt Go.RowKit Go.AM

theorem own : ownKnob Try.prog.godebug = none := by kernel_rfl
theorem laidOut : laidOutB Try.prog = true := by kernel_rfl

theorem walk {ι : Nat → Emb} {h : H} {W : World} {n0 : Int} {sl0 : Value} {l0 : List Kl} {n1 : Int} {n2 : Int} {args : Array Value} (r : Rel Try.prog E0 ι h W) (hro : ∀ b k, h.blk b = some k → k.own = false)
    (s0 : SlR h 59 3 sl0 (l0.map Kl.cells)) (ha : AR ι h.nx #[.agg #[iv n0, sl0], iv n1, iv n2] args) :
    Calls Try.prog 15 args W (fun e w' => e = .returned (.bool true) ∧ Below W.heap.size W w') := by
  obtain ⟨h', e⟩ := s15 s0
  exact law_body (k := 1000) (args := [.opq (.agg #[iv n0, sl0]), .int .i64 n1, .int .i64 n2]) (by kernel_rfl) (rcW_sound (by kernel_rfl)) ((e15 rcW 1000 (.agg #[iv n0, sl0]) n1 n2 h).trans e) r ha hro

set_option maxRecDepth 100000 in
theorem lifted (os : Os) (started : os.Started) (H : Type) (enc : TypeId × Value → H) :
    ReturnsInHanded {} Try.checked os 15 .any (Rows.callsWiderSpec.pre6 enc Try.prog Try.f15 Rows.callsWiderRow.domain false) (Rows.callsWiderSpec.post enc Try.prog Try.f15 false true false false) := by
  refine returnsInHanded_of_change_sized (C := Try.checked) own started (by kernel_rfl) Try.func15
    (ChangeSpec.witness6 (enc := enc) (C := Try.checked) false ⟨#[], #[.agg #[.int .i64 0, .slice none 0 0], .int .i64 0, .int .i64 0], []⟩ 8 (by kernel_rfl) (by kernel_rfl) (by kernel_rfl) (by kernel_rfl)) ?_
  intro W base args ds gs before hval0 hW hcnd hsz0 _
  have hsz : (DataW.weightsEach Try.prog (Try.f15.params.toList ++ Rows.callsWiderSpec.plain.varTypes Try.prog) (ds ++ gs)).all (· ≤ reachBytes) = true := hsz0
  have hval : ∀ (j : Nat) t v, Try.f15.params[j]? = some t → args[j]? = some v → Value.okWide Try.prog W .any base t v := hval0
  have hW' := hW
  obtain ⟨p, q, hA0, hV, rfl, hfz, hnd⟩ := hW
  have hA : DataW.TrodAll enc Try.prog W 0 (fun _ => true) true Try.f15.params.toList args.toList ds p := hA0
  rw [Try.params15] at hA hval hsz
  obtain ⟨v0, vs0, d0, ds0, p0, q0, hargs, rfl, rfl, h0, r0⟩ := trodAll_cons hA
  obtain ⟨v1, vs1, d1, ds1, p1, q1, rfl, rfl, rfl, h1, r1⟩ := trodAll_cons r0
  obtain ⟨v2, vs2, d2, ds2, p2, q2, rfl, rfl, rfl, h2, r2⟩ := trodAll_cons r1
  obtain ⟨rfl, rfl, rfl⟩ := trodAll_nil r2
  obtain rfl : args = #[v0, v1, v2] := by cases args; simp_all
  obtain ⟨rfl, rfl⟩ := trodVars_none hV
  have hwt0 : ∀ x ∈ d0.weights Try.prog 24, x ≤ reachBytes := fun x hx => of_decide_eq_true (List.all_eq_true.1 hsz _ (DataW.weights_mem_each (j := 0) (t := 24) (d := d0) rfl rfl x hx))
  have k0 := h0
  have lt0 : ∀ x ∈ p0, x.block < W.heap.size := by obtain ⟨m, hm⟩ := k0; exact DataW.trod_lt m _ _ _ hm
  obtain ⟨n0, sl0, m0, ι0, g0, l0, rfl, hn0, rr0, ro0, x0, e0, vr0, s0⟩ := open_log (hval 0 24 v0 rfl rfl) hwt0 h0 (rel_empty rfl W) (fun b k hb => by cases hb)
  obtain ⟨z1, rfl, rfl, rfl, w1⟩ := open_int under3 (hval 1 3 v1 rfl rfl) h1
  obtain ⟨z2, rfl, rfl, rfl, w2⟩ := open_int under3 (hval 2 3 v2 rfl rfl) h2
  clear hA0 hval0 hsz0 hsz
  have vv0 : VR ι0 g0.nx (.agg #[iv n0, m0]) (.agg #[iv n0, sl0]) := by
    have := LR.toArray (.cons (VR.int (ι := ι0) (n := g0.nx) .i64 n0) (.cons vr0 .nil))
    exact VR.agg this.1 this.2
  have ha : AR ι0 g0.nx #[.agg #[iv n0, m0], iv z1, iv z2] #[.agg #[iv n0, sl0], .int .i64 z1, .int .i64 z2] :=
    LR.toArray (.cons vv0 (.cons (VR.int .i64 z1) (.cons (VR.int .i64 z2) .nil)))
  have hwalk := walk (n0 := n0) (n1 := z1) (n2 := z2) rr0 ro0 s0 ha
  refine hwalk.mono fun e W' ⟨he, bel⟩ => ?_
  subst he
  exact ⟨_, rfl, _, _, _, [], _, [], hW', trodAll_mk1 (shut_bool Try.underlying4 _), (trodAll_cons_mk (Below.trod laidOut (by kernel_rfl) (of_decide_eq_true (by kernel_rfl)) k0 bel lt0) (trodAll_cons_mk (shut_int under3 w1) (trodAll_cons_mk (shut_int under3 w2) trodAll_mk0))), rfl, bel.frame _, fun h => by cases h⟩

theorem over : Rows.callsWiderRow.holds Try.pinned (OpenSpec.ofChange Rows.callsWiderSpec) :=
  OpenClaim.holds_of_wide 15 Try.f15 rfl rfl rfl rfl rfl rfl rfl ⟨rfl, rfl, rfl, rfl, rfl⟩ rfl rfl rfl rfl rfl (by kernel_rfl) Try.func15 (by kernel_rfl)
    (of_decide_eq_true (by kernel_rfl)) (by unfold Func.isWrapper; first | (rw [if_pos (by decide +kernel)]; kernel_rfl) | (rw [if_neg (by decide +kernel)]; exact ⟨rfl, rfl⟩))
    (fun os started H enc _ => lifted os started H enc)

theorem proved : Rows.CallsWiderSaid := over

end Go.Proofs.Ythmfjfblndophaa.callsWider
namespace Go.Proofs.Ythmfjfblndophaa
/-- The row, under a short name, for the claim. -/
theorem callsWider_holds : Rows.CallsWiderSaid := callsWider.proved
#print axioms callsWider_holds
end Go.Proofs.Ythmfjfblndophaa
