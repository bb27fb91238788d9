/- CallsMore returns true, whatever it is handed, and changes nothing of it. Nothing is assumed. -/
import Derived.Test.YthmfjfblndophaaRows
import Derived.Test.YthmfjfblndophaaChecked
import Derived.Test.YthmfjfblndophaaMo7
import Derived.WalkKit
import Derived.ProofKit
import Derived.OpenShut
import Derived.ShutString
import Derived.ChangeOld
import Derived.Below
import Derived.SizedLaws
namespace Go.Proofs.Ythmfjfblndophaa.callsMore
open Go.ChangeShapes Go.WideShapes Go.ChangeAt Go.RowKit Go.AM

theorem own : ownKnob Try.prog.godebug = none := by kernel_rfl
theorem laidOut : laidOutB Try.prog = true := by kernel_rfl

theorem walk {ι : Nat → Emb} {h : H} {W : World} {n0 : Int} {sl0 : Value} {l0 : List Kl} {c1 : Kl} {n2 : Int} {n3 : Int} {args : Array Value} (r : Rel Try.prog E0 ι h W) (hro : ∀ b k, h.blk b = some k → k.own = false)
    (s0 : SlR h 59 3 sl0 (l0.map Kl.cells)) (hm : l0.length + 2 < 2 ^ 43) (ha : AR ι h.nx #[.agg #[iv n0, sl0], c1.val, iv n2, iv n3] args) :
    Calls Try.prog 13 args W (fun e w' => e = .returned (.bool true) ∧ Below W.heap.size W w') := by
  obtain ⟨h', e⟩ := s13 (c := c1) hm s0
  exact law_body (k := l0.length + 1000) (args := [.opq (.agg #[iv n0, sl0]), .opq c1.val, .int .i64 n2, .int .i64 n3]) (by kernel_rfl) (rcW_sound (by kernel_rfl)) ((e13 rcW (l0.length + 1000) (.agg #[iv n0, sl0]) c1.val n2 n3 h).trans e) r ha hro

set_option maxRecDepth 100000 in
theorem lifted (os : Os) (started : os.Started) (H : Type) (enc : TypeId × Value → H) :
    ReturnsInHanded {} Try.checked os 13 .any (Rows.callsMoreSpec.pre6 enc Try.prog Try.f13 Rows.callsMoreRow.domain false) (Rows.callsMoreSpec.post enc Try.prog Try.f13 false true false false) := by
  refine returnsInHanded_of_change_sized (C := Try.checked) own started (by kernel_rfl) Try.func13
    (ChangeSpec.witness6 (enc := enc) (C := Try.checked) false ⟨#[], #[.agg #[.int .i64 0, .slice none 0 0], .agg #[.int .i64 0, .int .i64 0, .int .i64 0], .int .i64 0, .int .i64 0], []⟩ 8 (by kernel_rfl) (by kernel_rfl) (by kernel_rfl) (by kernel_rfl)) ?_
  intro W base args ds gs before hval0 hW hcnd hsz0 _
  have hsz : (DataW.weightsEach Try.prog (Try.f13.params.toList ++ Rows.callsMoreSpec.plain.varTypes Try.prog) (ds ++ gs)).all (· ≤ reachBytes) = true := hsz0
  have hval : ∀ (j : Nat) t v, Try.f13.params[j]? = some t → args[j]? = some v → Value.okWide Try.prog W .any base t v := hval0
  have hW' := hW
  obtain ⟨p, q, hA0, hV, rfl, hfz, hnd⟩ := hW
  have hA : DataW.TrodAll enc Try.prog W 0 (fun _ => true) true Try.f13.params.toList args.toList ds p := hA0
  rw [Try.params13] at hA hval hsz
  obtain ⟨v0, vs0, d0, ds0, p0, q0, hargs, rfl, rfl, h0, r0⟩ := trodAll_cons hA
  obtain ⟨v1, vs1, d1, ds1, p1, q1, rfl, rfl, rfl, h1, r1⟩ := trodAll_cons r0
  obtain ⟨v2, vs2, d2, ds2, p2, q2, rfl, rfl, rfl, h2, r2⟩ := trodAll_cons r1
  obtain ⟨v3, vs3, d3, ds3, p3, q3, rfl, rfl, rfl, h3, r3⟩ := trodAll_cons r2
  obtain ⟨rfl, rfl, rfl⟩ := trodAll_nil r3
  obtain rfl : args = #[v0, v1, v2, v3] := by cases args; simp_all
  obtain ⟨rfl, rfl⟩ := trodVars_none hV
  have hwt0 : ∀ x ∈ d0.weights Try.prog 24, x ≤ reachBytes := fun x hx => of_decide_eq_true (List.all_eq_true.1 hsz _ (DataW.weights_mem_each (j := 0) (t := 24) (d := d0) rfl rfl x hx))
  have hwt1 : ∀ x ∈ d1.weights Try.prog 59, x ≤ reachBytes := fun x hx => of_decide_eq_true (List.all_eq_true.1 hsz _ (DataW.weights_mem_each (j := 1) (t := 59) (d := d1) rfl rfl x hx))
  have k0 := h0
  have lt0 : ∀ x ∈ p0, x.block < W.heap.size := by obtain ⟨m, hm⟩ := k0; exact DataW.trod_lt m _ _ _ hm
  have k1 := h1
  have lt1 : ∀ x ∈ p1, x.block < W.heap.size := by obtain ⟨m, hm⟩ := k1; exact DataW.trod_lt m _ _ _ hm
  obtain ⟨n0, sl0, m0, ι0, g0, l0, rfl, hn0, rr0, ro0, x0, e0, vr0, s0⟩ := open_log (hval 0 24 v0 rfl rfl) hwt0 h0 (rel_empty rfl W) (fun b k hb => by cases hb)
  obtain ⟨c1, rfl⟩ := open_call (hval 1 59 v1 rfl rfl)
  obtain ⟨z2, rfl, rfl, rfl, w2⟩ := open_int under3 (hval 2 3 v2 rfl rfl) h2
  obtain ⟨z3, rfl, rfl, rfl, w3⟩ := open_int under3 (hval 3 3 v3 rfl rfl) h3
  clear hA0 hval0 hsz0 hsz
  have vv0 : VR ι0 g0.nx (.agg #[iv n0, m0]) (.agg #[iv n0, sl0]) := by
    have := LR.toArray (.cons (VR.int (ι := ι0) (n := g0.nx) .i64 n0) (.cons vr0 .nil))
    exact VR.agg this.1 this.2
  have ha : AR ι0 g0.nx #[.agg #[iv n0, m0], c1.val, iv z2, iv z3] #[.agg #[iv n0, sl0], c1.val, .int .i64 z2, .int .i64 z3] :=
    LR.toArray (.cons vv0 (.cons (vr_call c1) (.cons (VR.int .i64 z2) (.cons (VR.int .i64 z3) .nil))))
  have hwalk := walk (n0 := n0) (c1 := c1) (n2 := z2) (n3 := z3) rr0 ro0 s0 (log_len (hval 0 24 _ rfl rfl) hwt0 k0 vr0 s0) ha
  refine hwalk.mono fun e W' ⟨he, bel⟩ => ?_
  subst he
  exact ⟨_, rfl, _, _, _, [], _, [], hW', trodAll_mk1 (shut_bool Try.underlying4 _), (trodAll_cons_mk (Below.trod laidOut (by kernel_rfl) (of_decide_eq_true (by kernel_rfl)) k0 bel lt0) (trodAll_cons_mk (Below.trod laidOut (by kernel_rfl) (of_decide_eq_true (by kernel_rfl)) k1 bel lt1) (trodAll_cons_mk (shut_int under3 w2) (trodAll_cons_mk (shut_int under3 w3) trodAll_mk0)))), rfl, bel.frame _, fun h => by cases h⟩

theorem over : Rows.callsMoreRow.holds Try.pinned (OpenSpec.ofChange Rows.callsMoreSpec) :=
  OpenClaim.holds_of_wide 13 Try.f13 rfl rfl rfl rfl rfl rfl rfl ⟨rfl, rfl, rfl, rfl, rfl⟩ rfl rfl rfl rfl rfl (by kernel_rfl) Try.func13 (by kernel_rfl)
    (of_decide_eq_true (by kernel_rfl)) (by unfold Func.isWrapper; first | (rw [if_pos (by decide +kernel)]; kernel_rfl) | (rw [if_neg (by decide +kernel)]; exact ⟨rfl, rfl⟩))
    (fun os started H enc _ => lifted os started H enc)

theorem proved : Rows.CallsMoreSaid := over

end Go.Proofs.Ythmfjfblndophaa.callsMore
namespace Go.Proofs.Ythmfjfblndophaa
/-- The row, under a short name, for the claim. -/
theorem callsMore_holds : Rows.CallsMoreSaid := callsMore.proved
#print axioms callsMore_holds
end Go.Proofs.Ythmfjfblndophaa
