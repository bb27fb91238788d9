/- RoundsTimes returns true, whatever it is handed, and changes nothing of it. Nothing is assumed. -/
import Derived.Test.YtnhmgokjijlhbaaRows
import Derived.Test.YtnhmgokjijlhbaaChecked
import Derived.Test.YtnhmgokjijlhbaaTms4
import Derived.Test.YtnhmgokjijlhbaaAmRun
import Derived.WalkKit
import Derived.ProofKit
import Derived.OpenShut
import Derived.ShutString
import Derived.ChangeOld
import Derived.Below
import Derived.SizedLaws
namespace Go.Proofs.Ytnhmgokjijlhbaa.roundsTimes
open Go.ChangeShapes Go.WideShapes Go.ChangeAt Go.RowKit Go.AM

theorem own : ownKnob Try.prog.godebug = none := by kernel_rfl
theorem laidOut : laidOutB Try.prog = true := by kernel_rfl

theorem walk {ι : Nat → Emb} {h : H} {W : World} {n0 u0 : Int} {sl0 : Value} {l0 : List Sp} {sl1 : Value} {l1 : List Int} {n2 : Int} {sl3 : Value} {l3 : List Int} {args : Array Value} (r : Rel Try.prog E0 ι h W) (hro : ∀ b k, h.blk b = some k → k.own = false)
    (s0 : SlR h 89 4 sl0 (l0.map Sp.cells)) (s1 : SlR h 3 1 sl1 (l1.map fun z => [iv z])) (s3 : SlR h 3 1 sl3 (l3.map fun z => [iv z])) (ha : AR ι h.nx #[.agg #[iv n0, iv u0, sl0], sl1, iv n2, sl3] args) :
    Calls Try.prog 16 args W (fun e w' => e = .returned (.bool true) ∧ Below W.heap.size W w') := by
  obtain ⟨h', e⟩ := s16 s0 s1 s3
  exact law_run (by kernel_rfl) e r ha hro

set_option maxRecDepth 100000 in
theorem lifted (os : Os) (started : os.Started) (H : Type) (enc : TypeId × Value → H) :
    ReturnsInHanded {} Try.checked os 16 .any (Rows.roundsTimesSpec.pre6 enc Try.prog Try.f16 Rows.roundsTimesRow.domain false) (Rows.roundsTimesSpec.post enc Try.prog Try.f16 false true false false) := by
  refine returnsInHanded_of_change_sized (C := Try.checked) own started (by kernel_rfl) Try.func16
    (ChangeSpec.witness6 (enc := enc) (C := Try.checked) false ⟨#[], #[.agg #[.int .i64 0, .int .i64 0, .slice none 0 0], .slice none 0 0, .int .i64 0, .slice none 0 0], []⟩ 8 (by kernel_rfl) (by kernel_rfl) (by kernel_rfl) (by kernel_rfl)) ?_
  intro W base args ds gs before hval0 hW hcnd hsz0 _
  have hsz : (DataW.weightsEach Try.prog (Try.f16.params.toList ++ Rows.roundsTimesSpec.plain.varTypes Try.prog) (ds ++ gs)).all (· ≤ reachBytes) = true := hsz0
  have hval : ∀ (j : Nat) t v, Try.f16.params[j]? = some t → args[j]? = some v → Value.okWide Try.prog W .any base t v := hval0
  have hW' := hW
  obtain ⟨p, q, hA0, hV, rfl, hfz, hnd⟩ := hW
  have hA : DataW.TrodAll enc Try.prog W 0 (fun _ => true) true Try.f16.params.toList args.toList ds p := hA0
  rw [Try.params16] at hA hval hsz
  obtain ⟨v0, vs0, d0, ds0, p0, q0, hargs, rfl, rfl, h0, r0⟩ := trodAll_cons hA
  obtain ⟨v1, vs1, d1, ds1, p1, q1, rfl, rfl, rfl, h1, r1⟩ := trodAll_cons r0
  obtain ⟨v2, vs2, d2, ds2, p2, q2, rfl, rfl, rfl, h2, r2⟩ := trodAll_cons r1
  obtain ⟨v3, vs3, d3, ds3, p3, q3, rfl, rfl, rfl, h3, r3⟩ := trodAll_cons r2
  obtain ⟨rfl, rfl, rfl⟩ := trodAll_nil r3
  obtain rfl : args = #[v0, v1, v2, v3] := by cases args; simp_all
  obtain ⟨rfl, rfl⟩ := trodVars_none hV
  have hwt0 : ∀ x ∈ d0.weights Try.prog 47, x ≤ reachBytes := fun x hx => of_decide_eq_true (List.all_eq_true.1 hsz _ (DataW.weights_mem_each (j := 0) (t := 47) (d := d0) rfl rfl x hx))
  have hwt1 : ∀ x ∈ d1.weights Try.prog 22, x ≤ reachBytes := fun x hx => of_decide_eq_true (List.all_eq_true.1 hsz _ (DataW.weights_mem_each (j := 1) (t := 22) (d := d1) rfl rfl x hx))
  have hwt3 : ∀ x ∈ d3.weights Try.prog 22, x ≤ reachBytes := fun x hx => of_decide_eq_true (List.all_eq_true.1 hsz _ (DataW.weights_mem_each (j := 3) (t := 22) (d := d3) rfl rfl x hx))
  have k0 := h0
  have lt0 : ∀ x ∈ p0, x.block < W.heap.size := by obtain ⟨m, hm⟩ := k0; exact DataW.trod_lt m _ _ _ hm
  have k1 := h1
  have lt1 : ∀ x ∈ p1, x.block < W.heap.size := by obtain ⟨m, hm⟩ := k1; exact DataW.trod_lt m _ _ _ hm
  have k3 := h3
  have lt3 : ∀ x ∈ p3, x.block < W.heap.size := by obtain ⟨m, hm⟩ := k3; exact DataW.trod_lt m _ _ _ hm
  obtain ⟨n0, u0, sl0, m0, ι0, g0, l0, rfl, rr0, ro0, x0, e0, vr0, s0⟩ := open_table (hval 0 47 v0 rfl rfl) hwt0 h0 (rel_empty rfl W) (fun b k hb => by cases hb)
  obtain ⟨m1, ι1, g1, l1, rr1, ro1, x1, e1, vr1, s1⟩ := open_nums (hval 1 22 v1 rfl rfl) hwt1 h1 rr0 ro0
  obtain ⟨z2, rfl, rfl, rfl, w2⟩ := open_int under3 (hval 2 3 v2 rfl rfl) h2
  obtain ⟨m3, ι3, g3, l3, rr3, ro3, x3, e3, vr3, s3⟩ := open_nums (hval 3 22 v3 rfl rfl) hwt3 h3 rr1 ro1
  clear hA0 hval0 hsz0 hsz
  have vv0 : VR ι3 g3.nx (.agg #[iv n0, iv u0, m0]) (.agg #[iv n0, iv u0, sl0]) := by
    have := LR.toArray (.cons (VR.int (ι := ι3) (n := g3.nx) .i64 n0) (.cons (VR.int (ι := ι3) (n := g3.nx) .i64 u0) (.cons ((vr0.mono x1.nx e1).mono x3.nx e3) .nil)))
    exact VR.agg this.1 this.2
  have ha : AR ι3 g3.nx #[.agg #[iv n0, iv u0, m0], m1, iv z2, m3] #[.agg #[iv n0, iv u0, sl0], v1, .int .i64 z2, v3] :=
    LR.toArray (.cons vv0 (.cons (vr1.mono x3.nx e3) (.cons (VR.int .i64 z2) (.cons vr3 .nil))))
  have hwalk := walk (n0 := n0) (u0 := u0) (n2 := z2) rr3 ro3 ((s0.ext x1).ext x3) (s1.ext x3) s3 ha
  refine hwalk.mono fun e W' ⟨he, bel⟩ => ?_
  subst he
  exact ⟨_, rfl, _, _, _, [], _, [], hW', trodAll_mk1 (shut_bool Try.underlying4 _), (trodAll_cons_mk (Below.trod laidOut (by kernel_rfl) (of_decide_eq_true (by kernel_rfl)) k0 bel lt0) (trodAll_cons_mk (Below.trod laidOut (by kernel_rfl) (of_decide_eq_true (by kernel_rfl)) k1 bel lt1) (trodAll_cons_mk (shut_int under3 w2) (trodAll_cons_mk (Below.trod laidOut (by kernel_rfl) (of_decide_eq_true (by kernel_rfl)) k3 bel lt3) trodAll_mk0)))), rfl, bel.frame _, fun h => by cases h⟩

theorem over : Rows.roundsTimesRow.holds Try.pinned (OpenSpec.ofChange Rows.roundsTimesSpec) :=
  OpenClaim.holds_of_wide 16 Try.f16 rfl rfl rfl rfl rfl rfl rfl ⟨rfl, rfl, rfl, rfl, rfl⟩ rfl rfl rfl rfl rfl (by kernel_rfl) Try.func16 (by kernel_rfl)
    (of_decide_eq_true (by kernel_rfl)) (by unfold Func.isWrapper; first | (rw [if_pos (by decide +kernel)]; kernel_rfl) | (rw [if_neg (by decide +kernel)]; exact ⟨rfl, rfl⟩))
    (fun os started H enc _ => lifted os started H enc)

theorem proved : Rows.RoundsTimesSaid := over

end Go.Proofs.Ytnhmgokjijlhbaa.roundsTimes
namespace Go.Proofs.Ytnhmgokjijlhbaa
/-- The row, under a short name, for the claim. -/
theorem roundsTimes_holds : Rows.RoundsTimesSaid := roundsTimes.proved
#print axioms roundsTimes_holds
end Go.Proofs.Ytnhmgokjijlhbaa
