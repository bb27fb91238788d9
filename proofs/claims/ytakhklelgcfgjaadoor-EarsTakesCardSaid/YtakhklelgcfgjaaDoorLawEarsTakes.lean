/- EarsTakes returns true, whatever it is handed, and changes nothing of it; the package's two tables are laid as the program's text lays them. -/
import Derived.Test.YtakhklelgcfgjaaDoorRows
import Derived.Test.YtakhklelgcfgjaaDoorCards
import Derived.Test.YtakhklelgcfgjaaDoorTie
import Derived.Test.YtakhklelgcfgjaaDoorChecked
import Derived.Test.YtakhklelgcfgjaaDoorTks3
import Derived.Test.YtakhklelgcfgjaaDoorAmRun
import Derived.WalkKit
import Derived.ProofKit
import Derived.LaidMore
import Derived.OpenShut
import Derived.ShutString
import Derived.ChangeOld
import Derived.Below
import Derived.SizedLaws
import Derived.SevenTiedAt
namespace Go.Proofs.YtakhklelgcfgjaaDoor.earsTakes
open Go.ChangeShapes Go.WideShapes Go.ChangeAt Go.RowKit Go.AM

theorem own : ownKnob Tryd.prog.godebug = none := by kernel_rfl
theorem laidOut : laidOutB Tryd.prog = true := by kernel_rfl

/-- The door's own heap meets the condition. -/
theorem door_met (os : Os) (args : Array Value) : laidMetH Tryd.prog laidT ((World.doorLaid Tryd.prog 400 os).forCall (fun _ _ => 0) ⟨#[], args, []⟩).memory :=
  laidMetH_of_parts3 (fuel := 8) (laidMet_of_run' 8 (by kernel_rfl) (by kernel_rfl)) (by kernel_rfl) (by kernel_rfl)

theorem walk {ι : Nat → Emb} {h : H} {W : World} {sl0 : Value} {l0 : List Int} {sl1 : Value} {vs1 : List Value} {l1 : List (List Int)} {args : Array Value} (r : Rel Tryd.prog E0 ι h W) (hro : ∀ b k, h.blk b = some k → k.own = false)
    (s0 : SlR h 3 1 sl0 (l0.map fun z => [iv z])) (s1 : SlR h 22 1 sl1 (cellsV vs1)) (a1 : AllSl vs1) (t1 : LSI h vs1 l1) (ha : AR ι h.nx #[sl0, sl1] args) :
    Calls Tryd.prog 13 args W (fun e w' => e = .returned (.bool true) ∧ Below W.heap.size W w') := by
  obtain ⟨h', e⟩ := s13 s20 s0 s1 a1 t1
  exact law_run (by kernel_rfl) e r ha hro

set_option maxRecDepth 100000 in
theorem lifted (os : Os) (started : os.Started) (H : Type) (enc : TypeId × Value → H) :
    ReturnsInHanded {} Tryd.checked os 13 .any (fun w args => (Rows.earsTakesSpec.pre enc Tryd.prog Tryd.f13 [] false w args ∧ laidMetH Tryd.prog laidT w) ∧ sizedMet enc Tryd.prog Tryd.f13 (OpenSpec.ofChange Rows.earsTakesSpec) false w args)
      (Rows.earsTakesSpec.post enc Tryd.prog Tryd.f13 false true false false) := by
  refine returnsInHanded_of_change_and (C := Tryd.checked) (X := fun w _ => laidMetH Tryd.prog laidT w) (fun _ _ _ hh h => h.of_heap hh) own started (by kernel_rfl) Tryd.func13
    (ChangeSpec.witness_shaped (enc := enc) (C := Tryd.checked) (os := os) (X := fun w _ => laidMetH Tryd.prog laidT w) false (World.doorLaid Tryd.prog 400 os) #[.slice none 0 0, .slice none 0 0] 8 rfl (World.shaped_of_RefB (by kernel_rfl) (by kernel_rfl)) (by kernel_rfl) (by kernel_rfl) (by kernel_rfl) (door_met os _)) ?_
  intro W base args ds gs before hval0 hW hcnd hsz0 hL _
  have hsz : (DataW.weightsEach Tryd.prog (Tryd.f13.params.toList ++ Rows.earsTakesSpec.plain.varTypes Tryd.prog) (ds ++ gs)).all (· ≤ reachBytes) = true := hsz0
  have hval : ∀ (j : Nat) t v, Tryd.f13.params[j]? = some t → args[j]? = some v → Value.okWide Tryd.prog W .any base t v := hval0
  have hW' := hW
  obtain ⟨p, q, hA0, hV, rfl, hfz, hnd⟩ := hW
  have hA : DataW.TrodAll enc Tryd.prog W 0 (fun _ => true) true Tryd.f13.params.toList args.toList ds p := hA0
  rw [Tryd.params13] at hA hval hsz
  obtain ⟨v0, vs0, d0, ds0, p0, q0, hargs, rfl, rfl, h0, r0⟩ := trodAll_cons hA
  obtain ⟨v1, vs1, d1, ds1, p1, q1, rfl, rfl, rfl, h1, r1⟩ := trodAll_cons r0
  obtain ⟨rfl, rfl, rfl⟩ := trodAll_nil r1
  obtain rfl : args = #[v0, v1] := by cases args; simp_all
  obtain ⟨rfl, rfl⟩ := trodVars_none hV
  have hwt0 : ∀ x ∈ d0.weights Tryd.prog 23, x ≤ reachBytes := fun x hx => of_decide_eq_true (List.all_eq_true.1 hsz _ (DataW.weights_mem_each (j := 0) (t := 23) (d := d0) rfl rfl x hx))
  have hwt1 : ∀ x ∈ d1.weights Tryd.prog 68, x ≤ reachBytes := fun x hx => of_decide_eq_true (List.all_eq_true.1 hsz _ (DataW.weights_mem_each (j := 1) (t := 68) (d := d1) rfl rfl x hx))
  have k0 := h0
  have lt0 : ∀ x ∈ p0, x.block < W.heap.size := by obtain ⟨m, hm⟩ := k0; exact DataW.trod_lt m _ _ _ hm
  have k1 := h1
  have lt1 : ∀ x ∈ p1, x.block < W.heap.size := by obtain ⟨m, hm⟩ := k1; exact DataW.trod_lt m _ _ _ hm
  obtain ⟨m0, ι0, g0, l0, rr0, ro0, x0, e0, vr0, s0⟩ := open_graph (hval 0 23 v0 rfl rfl) hwt0 h0 (rel_tab hL) ro_tab
  obtain ⟨m1, ι1, g1, us1, l1, rr1, ro1, x1, e1, vr1, s1, a1, t1⟩ := open_rows (hval 1 68 v1 rfl rfl) hwt1 h1 rr0 ro0
  clear hA0 hval0 hsz0 hsz
  have ha : AR ι1 g1.nx #[m0, m1] #[v0, v1] :=
    LR.toArray (.cons (vr0.mono x1.nx e1) (.cons vr1 .nil))
  have hwalk := walk rr1 ro1 (s0.ext x1) s1 a1 t1 ha
  refine hwalk.mono fun e W' ⟨he, bel⟩ => ?_
  subst he
  exact ⟨_, rfl, _, _, _, [], _, [], hW', trodAll_mk1 (shut_bool Tryd.underlying4 _), (trodAll_cons_mk (Below.trod laidOut (by kernel_rfl) (of_decide_eq_true (by kernel_rfl)) k0 bel lt0) (trodAll_cons_mk (Below.trod laidOut (by kernel_rfl) (of_decide_eq_true (by kernel_rfl)) k1 bel lt1) trodAll_mk0)), rfl, bel.frame _, fun h => by cases h⟩

theorem over : Rows.EarsTakesSaid :=
  OpenClaim.holds_of_wide 13 Tryd.f13 rfl rfl rfl rfl rfl rfl rfl ⟨rfl, rfl, rfl, rfl, rfl⟩ rfl rfl rfl rfl rfl (by kernel_rfl) Tryd.func13 (by kernel_rfl)
    (of_decide_eq_true (by kernel_rfl)) (by unfold Func.isWrapper; first | (rw [if_pos (by decide +kernel)]; kernel_rfl) | (rw [if_neg (by decide +kernel)]; exact ⟨rfl, rfl⟩))
    (fun os started H enc _ => lifted os started H enc)

theorem card : Rows.EarsTakesCardSaid :=
  Claim7.holds_tied_plain_at .later [] [.data, .data] true (true, "570bf1d066ae3836a4e8e0ded53d450373981f83115a8a7740fb68e1598663a5") false
    over (fun _ h => by cases h) (by kernel_rfl) (fun _ h => by cases h) earsTakes_row_tie rfl ⟨rfl, rfl⟩ (by kernel_rfl) rfl
    (fun f fn hf hfn => by
      obtain rfl : f = 13 := Option.some.inj ((show Tryd.prog.funcNamed "lampblack/lampblacklaw04.EarsTakes" = some 13 by kernel_rfl).symm.trans hf) |>.symm
      obtain rfl : fn = Tryd.f13 := (Option.some.inj (Tryd.func13.symm.trans hfn)).symm
      exact ⟨by kernel_rfl, fun j t ht => by
        rw [Tryd.params13] at ht
        have hm : t ∈ [23, 68] := by simpa using Array.mem_of_getElem? ht
        have hall : ([23, 68].all fun u => !Tryd.prog.wantsStandIn u) = true := by kernel_rfl
        exact (show Tryd.prog.wantsStandIn t = false by simpa using List.all_eq_true.1 hall t hm)⟩)
    (by kernel_rfl)

end Go.Proofs.YtakhklelgcfgjaaDoor.earsTakes
namespace Go.Proofs.YtakhklelgcfgjaaDoor
/-- The card, under a short name, for the claim. -/
theorem earsTakes_holds : Rows.EarsTakesCardSaid := earsTakes.card
#print axioms earsTakes_holds
end Go.Proofs.YtakhklelgcfgjaaDoor
