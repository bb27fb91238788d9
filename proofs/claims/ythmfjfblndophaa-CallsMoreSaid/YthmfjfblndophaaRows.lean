/-
  No cell of these rows narrows 'for every input' (looked for: loops, veiled, ifaces, maps, wideKeys, modest, calm, conditions, laid).
  DERIVED. THE GIVEN ROWS OF THIS SEAT. 14 by the template 'for every input the law returns true; each argument reads behind the call as it read before'; 0 by the template 'total and deterministic' (their statements: YthmfjfblndophaaTotals.lean).
  GIVEN WITH THE SEED: the statements are not yours to turn. If you find one false, say at which input.
  Laid BY PROGRAM, IN A SANDBOX (cutbox-rows.mjs): the forced cells as the released guide's own fill.sh prints them over the translation a24abaca04b9dab8… (all of the seat's roots in one cut). By AI agents, Wed Nov 11 2026. No macro, syntax, notation, axiom, sorry.
-/
import Derived.Test.YthmfjfblndophaaChecked
import GoSem.Claim
import GoSem.ClaimJoined
import GoSem.ClaimMapViews
import Derived.JoinedTies
import Derived.KernelRfl
namespace Go.Proofs.Ythmfjfblndophaa
/- THE CELL 'sum', in the pinned program and in every row, IS THE sha256 OF THE DUMP (.gsa) THAT YthmfjfblndophaaProg.lean LOADS. Nothing in Lean hashes anything: it is a label: what it is worth is what the hold of that sum in a sandbox is worth. -/
noncomputable def Try.pinned : Pinned := { name := "ythmfjfblndophaa", sum := "a24abaca04b9dab8230fb75269c15c314cfa6e5cfe468b34b4695a0005fe29cf", checked := Try.checked }
namespace Rows
def none {H : Type} : Left H := { results := [], args := [] }

/-- 'lampblacklaw06.CallsWays': WHATEVER THE INPUT: true; the input reads as it did. -/
def callsWaysSpec : ChangeSpec := { name := "callsWays", fn := fun _ => fun
  | [d1, d2, d3] => { results := [.lit (.bool true)], args := [d1, d2, d3] }
  | _ => none }
def callsWaysRow : OpenClaim := { program := "ythmfjfblndophaa", sum := "a24abaca04b9dab8230fb75269c15c314cfa6e5cfe468b34b4695a0005fe29cf", func := "lampblack/lampblacklaw06.CallsWays", spec := "callsWays", unfollowed := true, recurses := true, plainKeys := false, apart := false }
def CallsWaysSaid : Prop := callsWaysRow.holds Try.pinned (OpenSpec.ofChange callsWaysSpec)

/-- ITS FALSE NEIGHBOUR: 'it returns false'. Refute it at one input. -/
def callsWaysWrong : ChangeSpec := { name := "callsWays", fn := fun _ => fun
  | [d1, d2, d3] => { results := [.lit (.bool false)], args := [d1, d2, d3] }
  | _ => none }
def CallsWaysWrongFalsely : Prop := callsWaysRow.holds Try.pinned (OpenSpec.ofChange callsWaysWrong)

/-- 'lampblacklaw06.CallsChecks': WHATEVER THE INPUT: true; the input reads as it did. -/
def callsChecksSpec : ChangeSpec := { name := "callsChecks", fn := fun _ => fun
  | [d1, d2, d3, d4] => { results := [.lit (.bool true)], args := [d1, d2, d3, d4] }
  | _ => none }
def callsChecksRow : OpenClaim := { program := "ythmfjfblndophaa", sum := "a24abaca04b9dab8230fb75269c15c314cfa6e5cfe468b34b4695a0005fe29cf", func := "lampblack/lampblacklaw06.CallsChecks", spec := "callsChecks", unfollowed := true, recurses := true, plainKeys := false, apart := false }
def CallsChecksSaid : Prop := callsChecksRow.holds Try.pinned (OpenSpec.ofChange callsChecksSpec)

/-- ITS FALSE NEIGHBOUR: 'it returns false'. Refute it at one input. -/
def callsChecksWrong : ChangeSpec := { name := "callsChecks", fn := fun _ => fun
  | [d1, d2, d3, d4] => { results := [.lit (.bool false)], args := [d1, d2, d3, d4] }
  | _ => none }
def CallsChecksWrongFalsely : Prop := callsChecksRow.holds Try.pinned (OpenSpec.ofChange callsChecksWrong)

/-- 'lampblacklaw06.CallsGossips': WHATEVER THE INPUT: true; the input reads as it did. -/
def callsGossipsSpec : ChangeSpec := { name := "callsGossips", fn := fun _ => fun
  | [d] => { results := [.lit (.bool true)], args := [d] }
  | _ => none }
def callsGossipsRow : OpenClaim := { program := "ythmfjfblndophaa", sum := "a24abaca04b9dab8230fb75269c15c314cfa6e5cfe468b34b4695a0005fe29cf", func := "lampblack/lampblacklaw06.CallsGossips", spec := "callsGossips", unfollowed := true, recurses := true, plainKeys := false, apart := false }
def CallsGossipsSaid : Prop := callsGossipsRow.holds Try.pinned (OpenSpec.ofChange callsGossipsSpec)

/-- ITS FALSE NEIGHBOUR: 'it returns false'. Refute it at one input. -/
def callsGossipsWrong : ChangeSpec := { name := "callsGossips", fn := fun _ => fun
  | [d] => { results := [.lit (.bool false)], args := [d] }
  | _ => none }
def CallsGossipsWrongFalsely : Prop := callsGossipsRow.holds Try.pinned (OpenSpec.ofChange callsGossipsWrong)

/-- 'lampblacklaw06.CallsNews': WHATEVER THE INPUT: true; the input reads as it did. -/
def callsNewsSpec : ChangeSpec := { name := "callsNews", fn := fun _ => fun
  | [d1, d2] => { results := [.lit (.bool true)], args := [d1, d2] }
  | _ => none }
def callsNewsRow : OpenClaim := { program := "ythmfjfblndophaa", sum := "a24abaca04b9dab8230fb75269c15c314cfa6e5cfe468b34b4695a0005fe29cf", func := "lampblack/lampblacklaw06.CallsNews", spec := "callsNews", unfollowed := true, recurses := true, plainKeys := false, apart := false }
def CallsNewsSaid : Prop := callsNewsRow.holds Try.pinned (OpenSpec.ofChange callsNewsSpec)

/-- ITS FALSE NEIGHBOUR: 'it returns false'. Refute it at one input. -/
def callsNewsWrong : ChangeSpec := { name := "callsNews", fn := fun _ => fun
  | [d1, d2] => { results := [.lit (.bool false)], args := [d1, d2] }
  | _ => none }
def CallsNewsWrongFalsely : Prop := callsNewsRow.holds Try.pinned (OpenSpec.ofChange callsNewsWrong)

/-- 'lampblacklaw06.CallsEnough': WHATEVER THE INPUT: true; the input reads as it did. -/
def callsEnoughSpec : ChangeSpec := { name := "callsEnough", fn := fun _ => fun
  | [d] => { results := [.lit (.bool true)], args := [d] }
  | _ => none }
def callsEnoughRow : OpenClaim := { program := "ythmfjfblndophaa", sum := "a24abaca04b9dab8230fb75269c15c314cfa6e5cfe468b34b4695a0005fe29cf", func := "lampblack/lampblacklaw06.CallsEnough", spec := "callsEnough", unfollowed := true, recurses := true, plainKeys := false, apart := false }
def CallsEnoughSaid : Prop := callsEnoughRow.holds Try.pinned (OpenSpec.ofChange callsEnoughSpec)

/-- ITS FALSE NEIGHBOUR: 'it returns false'. Refute it at one input. -/
def callsEnoughWrong : ChangeSpec := { name := "callsEnough", fn := fun _ => fun
  | [d] => { results := [.lit (.bool false)], args := [d] }
  | _ => none }
def CallsEnoughWrongFalsely : Prop := callsEnoughRow.holds Try.pinned (OpenSpec.ofChange callsEnoughWrong)

/-- 'lampblacklaw06.CallsFound': WHATEVER THE INPUT: true; the input reads as it did. -/
def callsFoundSpec : ChangeSpec := { name := "callsFound", fn := fun _ => fun
  | [d1, d2, d3, d4] => { results := [.lit (.bool true)], args := [d1, d2, d3, d4] }
  | _ => none }
def callsFoundRow : OpenClaim := { program := "ythmfjfblndophaa", sum := "a24abaca04b9dab8230fb75269c15c314cfa6e5cfe468b34b4695a0005fe29cf", func := "lampblack/lampblacklaw06.CallsFound", spec := "callsFound", unfollowed := true, recurses := true, plainKeys := false, apart := false }
def CallsFoundSaid : Prop := callsFoundRow.holds Try.pinned (OpenSpec.ofChange callsFoundSpec)

/-- ITS FALSE NEIGHBOUR: 'it returns false'. Refute it at one input. -/
def callsFoundWrong : ChangeSpec := { name := "callsFound", fn := fun _ => fun
  | [d1, d2, d3, d4] => { results := [.lit (.bool false)], args := [d1, d2, d3, d4] }
  | _ => none }
def CallsFoundWrongFalsely : Prop := callsFoundRow.holds Try.pinned (OpenSpec.ofChange callsFoundWrong)

/-- 'lampblacklaw06.CallsCuts': WHATEVER THE INPUT: true; the input reads as it did. -/
def callsCutsSpec : ChangeSpec := { name := "callsCuts", fn := fun _ => fun
  | [d1, d2, d3] => { results := [.lit (.bool true)], args := [d1, d2, d3] }
  | _ => none }
def callsCutsRow : OpenClaim := { program := "ythmfjfblndophaa", sum := "a24abaca04b9dab8230fb75269c15c314cfa6e5cfe468b34b4695a0005fe29cf", func := "lampblack/lampblacklaw06.CallsCuts", spec := "callsCuts", unfollowed := true, recurses := true, plainKeys := false, apart := false }
def CallsCutsSaid : Prop := callsCutsRow.holds Try.pinned (OpenSpec.ofChange callsCutsSpec)

/-- ITS FALSE NEIGHBOUR: 'it returns false'. Refute it at one input. -/
def callsCutsWrong : ChangeSpec := { name := "callsCuts", fn := fun _ => fun
  | [d1, d2, d3] => { results := [.lit (.bool false)], args := [d1, d2, d3] }
  | _ => none }
def CallsCutsWrongFalsely : Prop := callsCutsRow.holds Try.pinned (OpenSpec.ofChange callsCutsWrong)

/-- 'lampblacklaw06.CallsWide': WHATEVER THE INPUT: true; the input reads as it did. -/
def callsWideSpec : ChangeSpec := { name := "callsWide", fn := fun _ => fun
  | [d1, d2, d3] => { results := [.lit (.bool true)], args := [d1, d2, d3] }
  | _ => none }
def callsWideRow : OpenClaim := { program := "ythmfjfblndophaa", sum := "a24abaca04b9dab8230fb75269c15c314cfa6e5cfe468b34b4695a0005fe29cf", func := "lampblack/lampblacklaw06.CallsWide", spec := "callsWide", unfollowed := true, recurses := true, plainKeys := false, apart := false }
def CallsWideSaid : Prop := callsWideRow.holds Try.pinned (OpenSpec.ofChange callsWideSpec)

/-- ITS FALSE NEIGHBOUR: 'it returns false'. Refute it at one input. -/
def callsWideWrong : ChangeSpec := { name := "callsWide", fn := fun _ => fun
  | [d1, d2, d3] => { results := [.lit (.bool false)], args := [d1, d2, d3] }
  | _ => none }
def CallsWideWrongFalsely : Prop := callsWideRow.holds Try.pinned (OpenSpec.ofChange callsWideWrong)

/-- 'lampblacklaw06.CallsTurned': WHATEVER THE INPUT: true; the input reads as it did. -/
def callsTurnedSpec : ChangeSpec := { name := "callsTurned", fn := fun _ => fun
  | [d] => { results := [.lit (.bool true)], args := [d] }
  | _ => none }
def callsTurnedRow : OpenClaim := { program := "ythmfjfblndophaa", sum := "a24abaca04b9dab8230fb75269c15c314cfa6e5cfe468b34b4695a0005fe29cf", func := "lampblack/lampblacklaw06.CallsTurned", spec := "callsTurned", unfollowed := true, recurses := true, plainKeys := false, apart := false }
def CallsTurnedSaid : Prop := callsTurnedRow.holds Try.pinned (OpenSpec.ofChange callsTurnedSpec)

/-- ITS FALSE NEIGHBOUR: 'it returns false'. Refute it at one input. -/
def callsTurnedWrong : ChangeSpec := { name := "callsTurned", fn := fun _ => fun
  | [d] => { results := [.lit (.bool false)], args := [d] }
  | _ => none }
def CallsTurnedWrongFalsely : Prop := callsTurnedRow.holds Try.pinned (OpenSpec.ofChange callsTurnedWrong)

/-- 'lampblacklaw06.CallsMenger': WHATEVER THE INPUT: true; the input reads as it did. -/
def callsMengerSpec : ChangeSpec := { name := "callsMenger", fn := fun _ => fun
  | [d1, d2, d3] => { results := [.lit (.bool true)], args := [d1, d2, d3] }
  | _ => none }
def callsMengerRow : OpenClaim := { program := "ythmfjfblndophaa", sum := "a24abaca04b9dab8230fb75269c15c314cfa6e5cfe468b34b4695a0005fe29cf", func := "lampblack/lampblacklaw06.CallsMenger", spec := "callsMenger", unfollowed := true, recurses := true, plainKeys := false, apart := false }
def CallsMengerSaid : Prop := callsMengerRow.holds Try.pinned (OpenSpec.ofChange callsMengerSpec)

/-- ITS FALSE NEIGHBOUR: 'it returns false'. Refute it at one input. -/
def callsMengerWrong : ChangeSpec := { name := "callsMenger", fn := fun _ => fun
  | [d1, d2, d3] => { results := [.lit (.bool false)], args := [d1, d2, d3] }
  | _ => none }
def CallsMengerWrongFalsely : Prop := callsMengerRow.holds Try.pinned (OpenSpec.ofChange callsMengerWrong)

/-- 'lampblacklaw06.CallsMore': WHATEVER THE INPUT: true; the input reads as it did. -/
def callsMoreSpec : ChangeSpec := { name := "callsMore", fn := fun _ => fun
  | [d1, d2, d3, d4] => { results := [.lit (.bool true)], args := [d1, d2, d3, d4] }
  | _ => none }
def callsMoreRow : OpenClaim := { program := "ythmfjfblndophaa", sum := "a24abaca04b9dab8230fb75269c15c314cfa6e5cfe468b34b4695a0005fe29cf", func := "lampblack/lampblacklaw06.CallsMore", spec := "callsMore", unfollowed := true, recurses := true, plainKeys := false, apart := false }
def CallsMoreSaid : Prop := callsMoreRow.holds Try.pinned (OpenSpec.ofChange callsMoreSpec)

/-- ITS FALSE NEIGHBOUR: 'it returns false'. Refute it at one input. -/
def callsMoreWrong : ChangeSpec := { name := "callsMore", fn := fun _ => fun
  | [d1, d2, d3, d4] => { results := [.lit (.bool false)], args := [d1, d2, d3, d4] }
  | _ => none }
def CallsMoreWrongFalsely : Prop := callsMoreRow.holds Try.pinned (OpenSpec.ofChange callsMoreWrong)

/-- 'lampblacklaw06.CallsTimes': WHATEVER THE INPUT: true; the input reads as it did. -/
def callsTimesSpec : ChangeSpec := { name := "callsTimes", fn := fun _ => fun
  | [d1, d2] => { results := [.lit (.bool true)], args := [d1, d2] }
  | _ => none }
def callsTimesRow : OpenClaim := { program := "ythmfjfblndophaa", sum := "a24abaca04b9dab8230fb75269c15c314cfa6e5cfe468b34b4695a0005fe29cf", func := "lampblack/lampblacklaw06.CallsTimes", spec := "callsTimes", unfollowed := true, recurses := true, plainKeys := false, apart := false }
def CallsTimesSaid : Prop := callsTimesRow.holds Try.pinned (OpenSpec.ofChange callsTimesSpec)

/-- ITS FALSE NEIGHBOUR: 'it returns false'. Refute it at one input. -/
def callsTimesWrong : ChangeSpec := { name := "callsTimes", fn := fun _ => fun
  | [d1, d2] => { results := [.lit (.bool false)], args := [d1, d2] }
  | _ => none }
def CallsTimesWrongFalsely : Prop := callsTimesRow.holds Try.pinned (OpenSpec.ofChange callsTimesWrong)

/-- 'lampblacklaw06.CallsWider': WHATEVER THE INPUT: true; the input reads as it did. -/
def callsWiderSpec : ChangeSpec := { name := "callsWider", fn := fun _ => fun
  | [d1, d2, d3] => { results := [.lit (.bool true)], args := [d1, d2, d3] }
  | _ => none }
def callsWiderRow : OpenClaim := { program := "ythmfjfblndophaa", sum := "a24abaca04b9dab8230fb75269c15c314cfa6e5cfe468b34b4695a0005fe29cf", func := "lampblack/lampblacklaw06.CallsWider", spec := "callsWider", unfollowed := true, recurses := true, plainKeys := false, apart := false }
def CallsWiderSaid : Prop := callsWiderRow.holds Try.pinned (OpenSpec.ofChange callsWiderSpec)

/-- ITS FALSE NEIGHBOUR: 'it returns false'. Refute it at one input. -/
def callsWiderWrong : ChangeSpec := { name := "callsWider", fn := fun _ => fun
  | [d1, d2, d3] => { results := [.lit (.bool false)], args := [d1, d2, d3] }
  | _ => none }
def CallsWiderWrongFalsely : Prop := callsWiderRow.holds Try.pinned (OpenSpec.ofChange callsWiderWrong)

/-- 'lampblacklaw06.CallsBackward': WHATEVER THE INPUT: true; the input reads as it did. -/
def callsBackwardSpec : ChangeSpec := { name := "callsBackward", fn := fun _ => fun
  | [d1, d2] => { results := [.lit (.bool true)], args := [d1, d2] }
  | _ => none }
def callsBackwardRow : OpenClaim := { program := "ythmfjfblndophaa", sum := "a24abaca04b9dab8230fb75269c15c314cfa6e5cfe468b34b4695a0005fe29cf", func := "lampblack/lampblacklaw06.CallsBackward", spec := "callsBackward", unfollowed := true, recurses := true, plainKeys := false, apart := false }
def CallsBackwardSaid : Prop := callsBackwardRow.holds Try.pinned (OpenSpec.ofChange callsBackwardSpec)

/-- ITS FALSE NEIGHBOUR: 'it returns false'. Refute it at one input. -/
def callsBackwardWrong : ChangeSpec := { name := "callsBackward", fn := fun _ => fun
  | [d1, d2] => { results := [.lit (.bool false)], args := [d1, d2] }
  | _ => none }
def CallsBackwardWrongFalsely : Prop := callsBackwardRow.holds Try.pinned (OpenSpec.ofChange callsBackwardWrong)

/- THE SECOND FORM. 'bulk': how many values and letters a reading holds, each counted each time it is reached (what is shared counts as often as it is met; a slice's spare places count too). A statement '..UptoSaid' is the law's where the arguments, and the package variables that the reading takes, are together of bulk at most 1048576: NARROWER than '..Said'. Prove '..Said' where nothing that the law and all that it calls make is longer than what came in: it says more and counts as full. Else prove '..UptoSaid'. A law counts once. -/
mutual
def uptoBulk {H : Type} : DataW H → Nat
  | .lit (.string bytes) => bytes.length + 1
  | .lit _ => 1
  | .nil => 1
  | .ptr d => uptoBulk d + 1
  | .slice elems spare => uptoBulkAll elems + uptoBulkAll spare + 1
  | .agg parts => uptoBulkAll parts + 1
  | .iface _ d => uptoBulk d + 1
  | .map entries => uptoBulkEntries entries + 1
  | .held _ => 1
def uptoBulkAll {H : Type} : List (DataW H) → Nat
  | [] => 0
  | d :: r => uptoBulk d + uptoBulkAll r
def uptoBulkEntries {H : Type} : List (Lit × DataW H) → Nat
  | [] => 0
  | x :: r => uptoBulkEntry x + uptoBulkEntries r
def uptoBulkEntry {H : Type} : Lit × DataW H → Nat
  | (.string bytes, d) => bytes.length + uptoBulk d + 1
  | (_, d) => uptoBulk d + 1
 end
def uptoSmall : (H : Type) → List (DataW H) → Bool := fun _ ds => decide (uptoBulkAll ds ≤ 1048576)
def OpenSpec.upto (s : _root_.Go.ChangeSpec) : _root_.Go.OpenSpec := { _root_.Go.OpenSpec.ofChange s with cond := some uptoSmall }

/-- 'lampblacklaw06.CallsWays', WHERE WHAT IT READS IS OF BULK AT MOST 1048576: true; the input reads as it did. -/
def callsWaysUptoRow : OpenClaim := { program := "ythmfjfblndophaa", sum := "a24abaca04b9dab8230fb75269c15c314cfa6e5cfe468b34b4695a0005fe29cf", func := "lampblack/lampblacklaw06.CallsWays", spec := "callsWays", unfollowed := true, recurses := true, plainKeys := false, apart := false, narrowed := true }
def CallsWaysUptoSaid : Prop := callsWaysUptoRow.holds Try.pinned (OpenSpec.upto callsWaysSpec)

/-- 'lampblacklaw06.CallsChecks', WHERE WHAT IT READS IS OF BULK AT MOST 1048576: true; the input reads as it did. -/
def callsChecksUptoRow : OpenClaim := { program := "ythmfjfblndophaa", sum := "a24abaca04b9dab8230fb75269c15c314cfa6e5cfe468b34b4695a0005fe29cf", func := "lampblack/lampblacklaw06.CallsChecks", spec := "callsChecks", unfollowed := true, recurses := true, plainKeys := false, apart := false, narrowed := true }
def CallsChecksUptoSaid : Prop := callsChecksUptoRow.holds Try.pinned (OpenSpec.upto callsChecksSpec)

/-- 'lampblacklaw06.CallsGossips', WHERE WHAT IT READS IS OF BULK AT MOST 1048576: true; the input reads as it did. -/
def callsGossipsUptoRow : OpenClaim := { program := "ythmfjfblndophaa", sum := "a24abaca04b9dab8230fb75269c15c314cfa6e5cfe468b34b4695a0005fe29cf", func := "lampblack/lampblacklaw06.CallsGossips", spec := "callsGossips", unfollowed := true, recurses := true, plainKeys := false, apart := false, narrowed := true }
def CallsGossipsUptoSaid : Prop := callsGossipsUptoRow.holds Try.pinned (OpenSpec.upto callsGossipsSpec)

/-- 'lampblacklaw06.CallsNews', WHERE WHAT IT READS IS OF BULK AT MOST 1048576: true; the input reads as it did. -/
def callsNewsUptoRow : OpenClaim := { program := "ythmfjfblndophaa", sum := "a24abaca04b9dab8230fb75269c15c314cfa6e5cfe468b34b4695a0005fe29cf", func := "lampblack/lampblacklaw06.CallsNews", spec := "callsNews", unfollowed := true, recurses := true, plainKeys := false, apart := false, narrowed := true }
def CallsNewsUptoSaid : Prop := callsNewsUptoRow.holds Try.pinned (OpenSpec.upto callsNewsSpec)

/-- 'lampblacklaw06.CallsEnough', WHERE WHAT IT READS IS OF BULK AT MOST 1048576: true; the input reads as it did. -/
def callsEnoughUptoRow : OpenClaim := { program := "ythmfjfblndophaa", sum := "a24abaca04b9dab8230fb75269c15c314cfa6e5cfe468b34b4695a0005fe29cf", func := "lampblack/lampblacklaw06.CallsEnough", spec := "callsEnough", unfollowed := true, recurses := true, plainKeys := false, apart := false, narrowed := true }
def CallsEnoughUptoSaid : Prop := callsEnoughUptoRow.holds Try.pinned (OpenSpec.upto callsEnoughSpec)

/-- 'lampblacklaw06.CallsFound', WHERE WHAT IT READS IS OF BULK AT MOST 1048576: true; the input reads as it did. -/
def callsFoundUptoRow : OpenClaim := { program := "ythmfjfblndophaa", sum := "a24abaca04b9dab8230fb75269c15c314cfa6e5cfe468b34b4695a0005fe29cf", func := "lampblack/lampblacklaw06.CallsFound", spec := "callsFound", unfollowed := true, recurses := true, plainKeys := false, apart := false, narrowed := true }
def CallsFoundUptoSaid : Prop := callsFoundUptoRow.holds Try.pinned (OpenSpec.upto callsFoundSpec)

/-- 'lampblacklaw06.CallsCuts', WHERE WHAT IT READS IS OF BULK AT MOST 1048576: true; the input reads as it did. -/
def callsCutsUptoRow : OpenClaim := { program := "ythmfjfblndophaa", sum := "a24abaca04b9dab8230fb75269c15c314cfa6e5cfe468b34b4695a0005fe29cf", func := "lampblack/lampblacklaw06.CallsCuts", spec := "callsCuts", unfollowed := true, recurses := true, plainKeys := false, apart := false, narrowed := true }
def CallsCutsUptoSaid : Prop := callsCutsUptoRow.holds Try.pinned (OpenSpec.upto callsCutsSpec)

/-- 'lampblacklaw06.CallsWide', WHERE WHAT IT READS IS OF BULK AT MOST 1048576: true; the input reads as it did. -/
def callsWideUptoRow : OpenClaim := { program := "ythmfjfblndophaa", sum := "a24abaca04b9dab8230fb75269c15c314cfa6e5cfe468b34b4695a0005fe29cf", func := "lampblack/lampblacklaw06.CallsWide", spec := "callsWide", unfollowed := true, recurses := true, plainKeys := false, apart := false, narrowed := true }
def CallsWideUptoSaid : Prop := callsWideUptoRow.holds Try.pinned (OpenSpec.upto callsWideSpec)

/-- 'lampblacklaw06.CallsTurned', WHERE WHAT IT READS IS OF BULK AT MOST 1048576: true; the input reads as it did. -/
def callsTurnedUptoRow : OpenClaim := { program := "ythmfjfblndophaa", sum := "a24abaca04b9dab8230fb75269c15c314cfa6e5cfe468b34b4695a0005fe29cf", func := "lampblack/lampblacklaw06.CallsTurned", spec := "callsTurned", unfollowed := true, recurses := true, plainKeys := false, apart := false, narrowed := true }
def CallsTurnedUptoSaid : Prop := callsTurnedUptoRow.holds Try.pinned (OpenSpec.upto callsTurnedSpec)

/-- 'lampblacklaw06.CallsMenger', WHERE WHAT IT READS IS OF BULK AT MOST 1048576: true; the input reads as it did. -/
def callsMengerUptoRow : OpenClaim := { program := "ythmfjfblndophaa", sum := "a24abaca04b9dab8230fb75269c15c314cfa6e5cfe468b34b4695a0005fe29cf", func := "lampblack/lampblacklaw06.CallsMenger", spec := "callsMenger", unfollowed := true, recurses := true, plainKeys := false, apart := false, narrowed := true }
def CallsMengerUptoSaid : Prop := callsMengerUptoRow.holds Try.pinned (OpenSpec.upto callsMengerSpec)

/-- 'lampblacklaw06.CallsMore', WHERE WHAT IT READS IS OF BULK AT MOST 1048576: true; the input reads as it did. -/
def callsMoreUptoRow : OpenClaim := { program := "ythmfjfblndophaa", sum := "a24abaca04b9dab8230fb75269c15c314cfa6e5cfe468b34b4695a0005fe29cf", func := "lampblack/lampblacklaw06.CallsMore", spec := "callsMore", unfollowed := true, recurses := true, plainKeys := false, apart := false, narrowed := true }
def CallsMoreUptoSaid : Prop := callsMoreUptoRow.holds Try.pinned (OpenSpec.upto callsMoreSpec)

/-- 'lampblacklaw06.CallsTimes', WHERE WHAT IT READS IS OF BULK AT MOST 1048576: true; the input reads as it did. -/
def callsTimesUptoRow : OpenClaim := { program := "ythmfjfblndophaa", sum := "a24abaca04b9dab8230fb75269c15c314cfa6e5cfe468b34b4695a0005fe29cf", func := "lampblack/lampblacklaw06.CallsTimes", spec := "callsTimes", unfollowed := true, recurses := true, plainKeys := false, apart := false, narrowed := true }
def CallsTimesUptoSaid : Prop := callsTimesUptoRow.holds Try.pinned (OpenSpec.upto callsTimesSpec)

/-- 'lampblacklaw06.CallsWider', WHERE WHAT IT READS IS OF BULK AT MOST 1048576: true; the input reads as it did. -/
def callsWiderUptoRow : OpenClaim := { program := "ythmfjfblndophaa", sum := "a24abaca04b9dab8230fb75269c15c314cfa6e5cfe468b34b4695a0005fe29cf", func := "lampblack/lampblacklaw06.CallsWider", spec := "callsWider", unfollowed := true, recurses := true, plainKeys := false, apart := false, narrowed := true }
def CallsWiderUptoSaid : Prop := callsWiderUptoRow.holds Try.pinned (OpenSpec.upto callsWiderSpec)

/-- 'lampblacklaw06.CallsBackward', WHERE WHAT IT READS IS OF BULK AT MOST 1048576: true; the input reads as it did. -/
def callsBackwardUptoRow : OpenClaim := { program := "ythmfjfblndophaa", sum := "a24abaca04b9dab8230fb75269c15c314cfa6e5cfe468b34b4695a0005fe29cf", func := "lampblack/lampblacklaw06.CallsBackward", spec := "callsBackward", unfollowed := true, recurses := true, plainKeys := false, apart := false, narrowed := true }
def CallsBackwardUptoSaid : Prop := callsBackwardUptoRow.holds Try.pinned (OpenSpec.upto callsBackwardSpec)

end Rows
end Go.Proofs.Ythmfjfblndophaa
