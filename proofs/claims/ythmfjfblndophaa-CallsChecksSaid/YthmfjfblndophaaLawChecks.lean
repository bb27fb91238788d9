/- CallsChecks returns true, whatever it is handed, and changes nothing of it. -/
import Derived.Test.YthmfjfblndophaaRows
import Derived.Test.YthmfjfblndophaaChecked
import Derived.Test.YthmfjfblndophaaSpecI
import Derived.Test.YthmfjfblndophaaLogs
import Derived.WalkKit
import Derived.ProofKit
import Derived.OpenShut
import Derived.ShutString
import Derived.ChangeOld
import Derived.Below
import Derived.SizedLaws
namespace Go.Proofs.Ythmfjfblndophaa.callsChecks
open Go.ChangeShapes Go.WideShapes Go.ChangeAt Go.RowKit Go.AM

theorem own : ownKnob Try.prog.godebug = none := by kernel_rfl
theorem laidOut : laidOutB Try.prog = true := by kernel_rfl

theorem walk {ι : Nat → Emb} {h : H} {W : World} {n s t : Int} {sl0 way0 : Value} {args : Array Value} {l : List Cl} {way : List Int} (r : Rel Try.prog E0 ι h W) (hro : ∀ b k, h.blk b = some k → k.own = false)
    (hs : SlR h 59 3 sl0 (l.map Cl.cells)) (hw : SlR h 3 1 way0 (way.map cellI)) (ha : AR ι h.nx #[.agg #[iv n, sl0], iv s, iv t, way0] args) :
    Calls Try.prog 4 args W (fun e w' => e = .returned (.bool true) ∧ Below W.heap.size W w') := by
  obtain ⟨h', e⟩ := f4_spec (k := way.length + l.length + 81) (m := way.length + l.length) (n := n) (s := s) (t := t) hs hw (by omega) (by omega)
  exact law_calls (by kernel_rfl) (c4 e) r ha hro

set_option maxRecDepth 100000 in
theorem lifted (os : Os) (started : os.Started) (H : Type) (enc : TypeId × Value → H) :
    ReturnsInHanded {} Try.checked os 4 .any (Rows.callsChecksSpec.pre6 enc Try.prog Try.f4 Rows.callsChecksRow.domain false) (Rows.callsChecksSpec.post enc Try.prog Try.f4 false true false false) := by
  refine returnsInHanded_of_change_sized (C := Try.checked) own started (by kernel_rfl) Try.func4
    (ChangeSpec.witness6 (enc := enc) (C := Try.checked) false ⟨#[], #[.agg #[.int .i64 0, .slice none 0 0], .int .i64 0, .int .i64 0, .slice none 0 0], []⟩ 8 (by kernel_rfl) (by kernel_rfl) (by kernel_rfl) (by kernel_rfl)) ?_
  intro W base args ds gs before hval0 hW hcnd hsz0 _
  have hsz : (DataW.weightsEach Try.prog (Try.f4.params.toList ++ Rows.callsChecksSpec.plain.varTypes Try.prog) (ds ++ gs)).all (· ≤ reachBytes) = true := hsz0
  have hval : ∀ (j : Nat) t v, Try.f4.params[j]? = some t → args[j]? = some v → Value.okWide Try.prog W .any base t v := hval0
  have hW' := hW
  obtain ⟨p, q, hA0, hV, rfl, hfz, hnd⟩ := hW
  have hA : DataW.TrodAll enc Try.prog W 0 (fun _ => true) true Try.f4.params.toList args.toList ds p := hA0
  rw [Try.params4] at hA hval hsz
  obtain ⟨v0, vs0, d0, ds0, p0, q0, hargs, rfl, rfl, h0, r0⟩ := trodAll_cons hA
  obtain ⟨v1, vs1, d1, ds1, p1, q1, rfl, rfl, rfl, h1, r1⟩ := trodAll_cons r0
  obtain ⟨v2, vs2, d2, ds2, p2, q2, rfl, rfl, rfl, h2, r2⟩ := trodAll_cons r1
  obtain ⟨v3, vs3, d3, ds3, p3, q3, rfl, rfl, rfl, h3, r3⟩ := trodAll_cons r2
  obtain ⟨rfl, rfl, rfl⟩ := trodAll_nil r3
  obtain rfl : args = #[v0, v1, v2, v3] := by cases args; simp_all
  obtain ⟨rfl, rfl⟩ := trodVars_none hV
  have hwt0 : ∀ x ∈ d0.weights Try.prog 24, x ≤ reachBytes := fun x hx => of_decide_eq_true (List.all_eq_true.1 hsz _ (DataW.weights_mem_each (j := 0) (t := 24) (d := d0) rfl rfl x hx))
  have hwt3 : ∀ x ∈ d3.weights Try.prog 25, x ≤ reachBytes := fun x hx => of_decide_eq_true (List.all_eq_true.1 hsz _ (DataW.weights_mem_each (j := 3) (t := 25) (d := d3) rfl rfl x hx))
  have k0 := h0
  have lt0 : ∀ x ∈ p0, x.block < W.heap.size := by obtain ⟨m, hm⟩ := k0; exact DataW.trod_lt m _ _ _ hm
  have k3 := h3
  have lt3 : ∀ x ∈ p3, x.block < W.heap.size := by obtain ⟨m, hm⟩ := k3; exact DataW.trod_lt m _ _ _ hm
  obtain ⟨n, sl, sl0, ι1, g1, l, rfl, hn, r1', ro1, x1, e1, vr1, s1⟩ := open_log (hval 0 24 v0 rfl rfl) hwt0 h0 (rel_empty rfl W) (fun b k hb => by cases hb)
  obtain ⟨s, rfl, rfl, rfl, ws⟩ := open_int under3 (hval 1 3 v1 rfl rfl) h1
  obtain ⟨t, rfl, rfl, rfl, wt⟩ := open_int under3 (hval 2 3 v2 rfl rfl) h2
  obtain ⟨w0, ι2, g2, way, r2', ro2, x2, e2, vr2, s2⟩ := open_nums (hval 3 25 v3 rfl rfl) hwt3 h3 r1' ro1
  clear hA0 hval0 hsz0 hsz
  have vr : VR ι2 g2.nx (.agg #[iv n, sl0]) (.agg #[iv n, sl]) := by
    have := LR.toArray (.cons (VR.int (ι := ι2) (n := g2.nx) .i64 n) (.cons (vr1.mono x2.nx e2) .nil))
    exact VR.agg this.1 this.2
  have ha : AR ι2 g2.nx #[.agg #[iv n, sl0], iv s, iv t, w0] #[.agg #[iv n, sl], .int .i64 s, .int .i64 t, v3] :=
    LR.toArray (.cons vr (.cons (VR.int .i64 s) (.cons (VR.int .i64 t) (.cons vr2 .nil))))
  have hwalk := walk (n := n) (s := s) (t := t) r2' ro2 (s1.ext x2) s2 ha
  refine hwalk.mono fun e W' ⟨he, bel⟩ => ?_
  subst he
  exact ⟨_, rfl, _, _, _, [], _, [], hW', trodAll_mk1 (shut_bool Try.underlying4 _), (trodAll_cons_mk (Below.trod laidOut (by kernel_rfl) (of_decide_eq_true (by kernel_rfl)) k0 bel lt0) (trodAll_cons_mk (shut_int under3 ws) (trodAll_cons_mk (shut_int under3 wt) (trodAll_cons_mk (Below.trod laidOut (by kernel_rfl) (of_decide_eq_true (by kernel_rfl)) k3 bel lt3) trodAll_mk0)))), rfl, bel.frame _, fun h => by cases h⟩

theorem over : Rows.callsChecksRow.holds Try.pinned (OpenSpec.ofChange Rows.callsChecksSpec) :=
  OpenClaim.holds_of_wide 4 Try.f4 rfl rfl rfl rfl rfl rfl rfl ⟨rfl, rfl, rfl, rfl, rfl⟩ rfl rfl rfl rfl rfl (by kernel_rfl) Try.func4 (by kernel_rfl)
    (of_decide_eq_true (by kernel_rfl)) (by unfold Func.isWrapper; first | (rw [if_pos (by decide +kernel)]; kernel_rfl) | (rw [if_neg (by decide +kernel)]; exact ⟨rfl, rfl⟩))
    (fun os started H enc _ => lifted os started H enc)

theorem proved : Rows.CallsChecksSaid := over

end Go.Proofs.Ythmfjfblndophaa.callsChecks
namespace Go.Proofs.Ythmfjfblndophaa
/-- The row, under a short name, for the claim. -/
theorem callsChecks_holds : Rows.CallsChecksSaid := callsChecks.proved
#print axioms callsChecks_holds
end Go.Proofs.Ythmfjfblndophaa
