/- TopWide returns true, whatever it is handed, and changes nothing of it; the package's two tables are laid as the program's text lays them. -/
import Derived.Test.YtphchobmencipaaDoorRows
import Derived.Test.YtphchobmencipaaDoorCards
import Derived.Test.YtphchobmencipaaDoorTie
import Derived.Test.YtphchobmencipaaDoorChecked
import Derived.Test.YtphchobmencipaaDoorWx7
import Derived.WalkKit
import Derived.ProofKit
import Derived.LaidMore
import Derived.OpenShut
import Derived.ShutString
import Derived.ChangeOld
import Derived.Below
import Derived.SizedLaws
import Derived.SevenTiedAt
namespace Go.Proofs.YtphchobmencipaaDoor.topWide
open Go.ChangeShapes Go.WideShapes Go.ChangeAt Go.RowKit Go.AM

theorem own : ownKnob Tryd.prog.godebug = none := by kernel_rfl
theorem laidOut : laidOutB Tryd.prog = true := by kernel_rfl

/-- The door's own heap meets the condition. -/
theorem door_met (os : Os) (args : Array Value) : laidMetH Tryd.prog laidT ((World.doorLaid Tryd.prog 400 os).forCall (fun _ _ => 0) ⟨#[], args, []⟩).memory :=
  laidMetH_of_parts3 (fuel := 8) (laidMet_of_run' 8 (by kernel_rfl) (by kernel_rfl)) (by kernel_rfl) (by kernel_rfl)

theorem walk {ι : Nat → Emb} {h : H} {W : World} {sl0 : Value} {l0 : List F.Kl} {n0 n1 n2 : Int} {args : Array Value} (r : Rel Tryd.prog E0 ι h W) (hro : ∀ b k, h.blk b = some k → k.own = false)
    (s0 : SlR h 52 3 sl0 (l0.map F.Kl.cells)) (ha : AR ι h.nx #[.agg #[iv n0, sl0], iv n1, iv n2] args) :
    Calls Tryd.prog 6 args W (fun e w' => e = .returned (.bool true) ∧ Below W.heap.size W w') := by
  obtain ⟨h', e⟩ := F.s6 (n := n0) (s := n1) (t := n2) (by kernel_rfl) s0
  exact law_body (k := 100) (args := [.opq (.agg #[iv n0, sl0]), .int .i64 n1, .int .i64 n2]) (by kernel_rfl) (F.rcL_sound (by kernel_rfl)) ((e6 F.rcL 100 _ _ _ _).trans e) r ha hro

set_option maxRecDepth 100000 in
theorem lifted (os : Os) (started : os.Started) (H : Type) (enc : TypeId × Value → H) :
    ReturnsInHanded {} Tryd.checked os 6 .any (fun w args => (Rows.topWideSpec.pre enc Tryd.prog Tryd.f6 [] false w args ∧ laidMetH Tryd.prog laidT w) ∧ sizedMet enc Tryd.prog Tryd.f6 (OpenSpec.ofChange Rows.topWideSpec) false w args)
      (Rows.topWideSpec.post enc Tryd.prog Tryd.f6 false true false false) := by
  refine returnsInHanded_of_change_and (C := Tryd.checked) (X := fun w _ => laidMetH Tryd.prog laidT w) (fun _ _ _ hh h => h.of_heap hh) own started (by kernel_rfl) Tryd.func6
    (ChangeSpec.witness_shaped (enc := enc) (C := Tryd.checked) (os := os) (X := fun w _ => laidMetH Tryd.prog laidT w) false (World.doorLaid Tryd.prog 400 os) #[.agg #[iv 0, .slice none 0 0], iv 0, iv 0] 8 rfl (World.shaped_of_RefB (by kernel_rfl) (by kernel_rfl)) (by kernel_rfl) (by kernel_rfl) (by kernel_rfl) (door_met os _)) ?_
  intro W base args ds gs before hval0 hW hcnd hsz0 hL _
  have hsz : (DataW.weightsEach Tryd.prog (Tryd.f6.params.toList ++ Rows.topWideSpec.plain.varTypes Tryd.prog) (ds ++ gs)).all (· ≤ reachBytes) = true := hsz0
  have hval : ∀ (j : Nat) t v, Tryd.f6.params[j]? = some t → args[j]? = some v → Value.okWide Tryd.prog W .any base t v := hval0
  have hW' := hW
  obtain ⟨p, q, hA0, hV, rfl, hfz, hnd⟩ := hW
  have hA : DataW.TrodAll enc Tryd.prog W 0 (fun _ => true) true Tryd.f6.params.toList args.toList ds p := hA0
  rw [Tryd.params6] at hA hval hsz
  obtain ⟨v0, vs0, d0, ds0, p0, q0, hargs, rfl, rfl, h0, r0⟩ := trodAll_cons hA
  obtain ⟨v1, vs1, d1, ds1, p1, q1, rfl, rfl, rfl, h1, r1⟩ := trodAll_cons r0
  obtain ⟨v2, vs2, d2, ds2, p2, q2, rfl, rfl, rfl, h2, r2⟩ := trodAll_cons r1
  obtain ⟨rfl, rfl, rfl⟩ := trodAll_nil r2
  obtain rfl : args = #[v0, v1, v2] := by cases args; simp_all
  obtain ⟨rfl, rfl⟩ := trodVars_none hV
  have hwt0 : ∀ x ∈ d0.weights Tryd.prog 46, x ≤ reachBytes := fun x hx => of_decide_eq_true (List.all_eq_true.1 hsz _ (DataW.weights_mem_each (j := 0) (t := 46) (d := d0) rfl rfl x hx))
  have k0 := h0
  have lt0 : ∀ x ∈ p0, x.block < W.heap.size := by obtain ⟨m, hm⟩ := k0; exact DataW.trod_lt m _ _ _ hm
  obtain ⟨n0, sl0, m0, ι0, g0, l0, rfl, hn0, rr0, ro0, x0, e0, vr0, s0⟩ := F.open_log (hval 0 46 v0 rfl rfl) hwt0 h0 (rel_tab hL) ro_tab
  obtain ⟨z1, rfl, rfl, rfl, w1⟩ := open_int under3 (hval 1 3 v1 rfl rfl) h1
  obtain ⟨z2, rfl, rfl, rfl, w2⟩ := open_int under3 (hval 2 3 v2 rfl rfl) h2
  clear hA0 hval0 hsz0 hsz
  have vv0 : VR ι0 g0.nx (.agg #[iv n0, m0]) (.agg #[iv n0, sl0]) := by
    have := LR.toArray (.cons (VR.int (ι := ι0) (n := g0.nx) .i64 n0) (.cons vr0 .nil))
    exact VR.agg this.1 this.2
  have ha : AR ι0 g0.nx #[.agg #[iv n0, m0], iv z1, iv z2] #[.agg #[iv n0, sl0], .int .i64 z1, .int .i64 z2] :=
    LR.toArray (.cons vv0 (.cons (VR.int .i64 z1) (.cons (VR.int .i64 z2) .nil)))
  have hwalk := walk (n0 := n0) (n1 := z1) (n2 := z2) rr0 ro0 s0 ha
  refine hwalk.mono fun e W' ⟨he, bel⟩ => ?_
  subst he
  exact ⟨_, rfl, _, _, _, [], _, [], hW', trodAll_mk1 (shut_bool Tryd.underlying4 _), (trodAll_cons_mk (Below.trod laidOut (by kernel_rfl) (of_decide_eq_true (by kernel_rfl)) k0 bel lt0) (trodAll_cons_mk (shut_int under3 w1) (trodAll_cons_mk (shut_int under3 w2) trodAll_mk0))), rfl, bel.frame _, fun h => by cases h⟩

theorem over : Rows.TopWideSaid :=
  OpenClaim.holds_of_wide 6 Tryd.f6 rfl rfl rfl rfl rfl rfl rfl ⟨rfl, rfl, rfl, rfl, rfl⟩ rfl rfl rfl rfl rfl (by kernel_rfl) Tryd.func6 (by kernel_rfl)
    (of_decide_eq_true (by kernel_rfl)) (by unfold Func.isWrapper; first | (rw [if_pos (by decide +kernel)]; kernel_rfl) | (rw [if_neg (by decide +kernel)]; exact ⟨rfl, rfl⟩))
    (fun os started H enc _ => lifted os started H enc)

theorem card : Rows.TopWideCardSaid :=
  Claim7.holds_tied_plain_at .later [] [.data, .data] true (true, "c3dc0127390825aa107a9bbde6c43b41866eddecc3f76aaa2a8dabc7b532e859") false
    over (fun _ h => by cases h) (by kernel_rfl) (fun _ h => by cases h) topWide_row_tie rfl ⟨rfl, rfl⟩ (by kernel_rfl) rfl
    (fun f fn hf hfn => by
      obtain rfl : f = 6 := Option.some.inj ((show Tryd.prog.funcNamed "lampblack/lampblacktop.TopWide" = some 6 by kernel_rfl).symm.trans hf) |>.symm
      obtain rfl : fn = Tryd.f6 := (Option.some.inj (Tryd.func6.symm.trans hfn)).symm
      exact ⟨by kernel_rfl, fun j t ht => by
        rw [Tryd.params6] at ht
        have hm : t ∈ [46, 3, 3] := by simpa using Array.mem_of_getElem? ht
        have hall : ([46, 3, 3].all fun u => !Tryd.prog.wantsStandIn u) = true := by kernel_rfl
        exact (show Tryd.prog.wantsStandIn t = false by simpa using List.all_eq_true.1 hall t hm)⟩)
    (by kernel_rfl)

end Go.Proofs.YtphchobmencipaaDoor.topWide
namespace Go.Proofs.YtphchobmencipaaDoor
/-- The card, under a short name, for the claim. -/
theorem topWide_holds : Rows.TopWideCardSaid := topWide.card
#print axioms topWide_holds
end Go.Proofs.YtphchobmencipaaDoor
