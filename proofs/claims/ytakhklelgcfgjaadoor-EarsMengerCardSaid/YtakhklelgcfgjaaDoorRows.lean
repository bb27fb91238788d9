/-
  NARROWER THAN 'FOR EVERY INPUT', by the rows' own cells (each row's printed sentence says how): EarsPairs: laid · EarsBridges: laid · EarsOrients: laid · EarsStrong: laid · EarsNumbers: laid · EarsCounted: laid · EarsBlocks: laid · EarsCactus: laid · EarsParts: laid · EarsNames: laid · EarsTakes: laid · EarsDouble: laid · EarsWays: laid · EarsMenger: laid.
  DERIVED. THE GIVEN ROWS OF THIS SEAT. 14 by the template 'for every input the law returns true; each argument reads behind the call as it read before'; 0 by the template 'total and deterministic' (their statements: YtakhklelgcfgjaaDoorTotals.lean).
  GIVEN WITH THE SEED: the statements are not yours to turn. If you find one false, say at which input.
  Laid BY PROGRAM, IN A SANDBOX (cutbox-rows.mjs): the forced cells as the released guide's own fill.sh prints them over the translation bc3d276566624cf7… (all of the seat's roots in one cut). By AI agents, Wed Nov 11 2026. No macro, syntax, notation, axiom, sorry.
-/
import Derived.Test.YtakhklelgcfgjaaDoorChecked
import GoSem.Claim
import GoSem.ClaimJoined
import GoSem.ClaimMapViews
import Derived.JoinedTies
import Derived.KernelRfl
namespace Go.Proofs.YtakhklelgcfgjaaDoor
/- THE CELL 'sum', in the pinned program and in every row, IS THE sha256 OF THE DUMP (.gsa) THAT YtakhklelgcfgjaaDoorProg.lean LOADS. Nothing in Lean hashes anything: it is a label: what it is worth is what the hold of that sum in a sandbox is worth. -/
noncomputable def Tryd.pinned : Pinned := { name := "ytakhklelgcfgjaadoor", sum := "bc3d276566624cf7801943b5cbd035d7b78794f8f0566bace59c4e3736350488", checked := Tryd.checked }
namespace Rows
def none {H : Type} : Left H := { results := [], args := [] }

/- WHAT THE LISTED PACKAGE-LEVEL VARIABLES READ AS WHEN THE CALL BEGINS. Each datum BY PROGRAM (the guide's laid-datum.mjs) off the statement by which the dump's own 'gosem.cut.vars' lays the variable. In a bare row this is a premise. The card (YtakhklelgcfgjaaDoorCards.lean) ties it to the program's text. -/
def laid_math_bits_deBruijn32tab {H : Type} : DataW H := .agg [.lit (.int .u8 0), .lit (.int .u8 1), .lit (.int .u8 28), .lit (.int .u8 2), .lit (.int .u8 29), .lit (.int .u8 14), .lit (.int .u8 24), .lit (.int .u8 3), .lit (.int .u8 30), .lit (.int .u8 22), .lit (.int .u8 20), .lit (.int .u8 15), .lit (.int .u8 25), .lit (.int .u8 17), .lit (.int .u8 4), .lit (.int .u8 8), .lit (.int .u8 31), .lit (.int .u8 27), .lit (.int .u8 13), .lit (.int .u8 23), .lit (.int .u8 21), .lit (.int .u8 19), .lit (.int .u8 16), .lit (.int .u8 7), .lit (.int .u8 26), .lit (.int .u8 12), .lit (.int .u8 18), .lit (.int .u8 6), .lit (.int .u8 11), .lit (.int .u8 5), .lit (.int .u8 10), .lit (.int .u8 9)]
def laid_math_bits_deBruijn64tab {H : Type} : DataW H := .agg [.lit (.int .u8 0), .lit (.int .u8 1), .lit (.int .u8 56), .lit (.int .u8 2), .lit (.int .u8 57), .lit (.int .u8 49), .lit (.int .u8 28), .lit (.int .u8 3), .lit (.int .u8 61), .lit (.int .u8 58), .lit (.int .u8 42), .lit (.int .u8 50), .lit (.int .u8 38), .lit (.int .u8 29), .lit (.int .u8 17), .lit (.int .u8 4), .lit (.int .u8 62), .lit (.int .u8 47), .lit (.int .u8 59), .lit (.int .u8 36), .lit (.int .u8 45), .lit (.int .u8 43), .lit (.int .u8 51), .lit (.int .u8 22), .lit (.int .u8 53), .lit (.int .u8 39), .lit (.int .u8 33), .lit (.int .u8 30), .lit (.int .u8 24), .lit (.int .u8 18), .lit (.int .u8 12), .lit (.int .u8 5), .lit (.int .u8 63), .lit (.int .u8 55), .lit (.int .u8 48), .lit (.int .u8 27), .lit (.int .u8 60), .lit (.int .u8 41), .lit (.int .u8 37), .lit (.int .u8 16), .lit (.int .u8 46), .lit (.int .u8 35), .lit (.int .u8 44), .lit (.int .u8 21), .lit (.int .u8 52), .lit (.int .u8 32), .lit (.int .u8 23), .lit (.int .u8 11), .lit (.int .u8 54), .lit (.int .u8 26), .lit (.int .u8 40), .lit (.int .u8 15), .lit (.int .u8 34), .lit (.int .u8 20), .lit (.int .u8 31), .lit (.int .u8 10), .lit (.int .u8 25), .lit (.int .u8 14), .lit (.int .u8 19), .lit (.int .u8 9), .lit (.int .u8 13), .lit (.int .u8 8), .lit (.int .u8 7), .lit (.int .u8 6)]

/-- 'lampblacklaw04.EarsPairs': WHATEVER THE INPUT: true; the input reads as it did. -/
def earsPairsSpec : ChangeSpec := { name := "earsPairs", fn := fun _ => fun
  | [d] => { results := [.lit (.bool true)], args := [d] }
  | _ => none }
def earsPairsRow : OpenClaim := { program := "ytakhklelgcfgjaadoor", sum := "bc3d276566624cf7801943b5cbd035d7b78794f8f0566bace59c4e3736350488", func := "lampblack/lampblacklaw04.EarsPairs", spec := "earsPairs", unfollowed := true, recurses := true, named := ["math/bits.deBruijn32tab", "math/bits.deBruijn64tab"], plainKeys := false, apart := false, laid := [("math/bits.deBruijn32tab", laid_math_bits_deBruijn32tab), ("math/bits.deBruijn64tab", laid_math_bits_deBruijn64tab)] }
def EarsPairsSaid : Prop := earsPairsRow.holds Tryd.pinned (OpenSpec.ofChange earsPairsSpec)

/-- ITS FALSE NEIGHBOUR: 'it returns false'. Refute it at one input. -/
def earsPairsWrong : ChangeSpec := { name := "earsPairs", fn := fun _ => fun
  | [d] => { results := [.lit (.bool false)], args := [d] }
  | _ => none }
def EarsPairsWrongFalsely : Prop := earsPairsRow.holds Tryd.pinned (OpenSpec.ofChange earsPairsWrong)

/-- 'lampblacklaw04.EarsBridges': WHATEVER THE INPUT: true; the input reads as it did. -/
def earsBridgesSpec : ChangeSpec := { name := "earsBridges", fn := fun _ => fun
  | [d] => { results := [.lit (.bool true)], args := [d] }
  | _ => none }
def earsBridgesRow : OpenClaim := { program := "ytakhklelgcfgjaadoor", sum := "bc3d276566624cf7801943b5cbd035d7b78794f8f0566bace59c4e3736350488", func := "lampblack/lampblacklaw04.EarsBridges", spec := "earsBridges", unfollowed := true, recurses := true, named := ["math/bits.deBruijn32tab", "math/bits.deBruijn64tab"], plainKeys := false, apart := false, laid := [("math/bits.deBruijn32tab", laid_math_bits_deBruijn32tab), ("math/bits.deBruijn64tab", laid_math_bits_deBruijn64tab)] }
def EarsBridgesSaid : Prop := earsBridgesRow.holds Tryd.pinned (OpenSpec.ofChange earsBridgesSpec)

/-- ITS FALSE NEIGHBOUR: 'it returns false'. Refute it at one input. -/
def earsBridgesWrong : ChangeSpec := { name := "earsBridges", fn := fun _ => fun
  | [d] => { results := [.lit (.bool false)], args := [d] }
  | _ => none }
def EarsBridgesWrongFalsely : Prop := earsBridgesRow.holds Tryd.pinned (OpenSpec.ofChange earsBridgesWrong)

/-- 'lampblacklaw04.EarsOrients': WHATEVER THE INPUT: true; the input reads as it did. -/
def earsOrientsSpec : ChangeSpec := { name := "earsOrients", fn := fun _ => fun
  | [d1, d2] => { results := [.lit (.bool true)], args := [d1, d2] }
  | _ => none }
def earsOrientsRow : OpenClaim := { program := "ytakhklelgcfgjaadoor", sum := "bc3d276566624cf7801943b5cbd035d7b78794f8f0566bace59c4e3736350488", func := "lampblack/lampblacklaw04.EarsOrients", spec := "earsOrients", unfollowed := true, recurses := true, named := ["math/bits.deBruijn32tab", "math/bits.deBruijn64tab"], plainKeys := false, apart := false, laid := [("math/bits.deBruijn32tab", laid_math_bits_deBruijn32tab), ("math/bits.deBruijn64tab", laid_math_bits_deBruijn64tab)] }
def EarsOrientsSaid : Prop := earsOrientsRow.holds Tryd.pinned (OpenSpec.ofChange earsOrientsSpec)

/-- ITS FALSE NEIGHBOUR: 'it returns false'. Refute it at one input. -/
def earsOrientsWrong : ChangeSpec := { name := "earsOrients", fn := fun _ => fun
  | [d1, d2] => { results := [.lit (.bool false)], args := [d1, d2] }
  | _ => none }
def EarsOrientsWrongFalsely : Prop := earsOrientsRow.holds Tryd.pinned (OpenSpec.ofChange earsOrientsWrong)

/-- 'lampblacklaw04.EarsStrong': WHATEVER THE INPUT: true; the input reads as it did. -/
def earsStrongSpec : ChangeSpec := { name := "earsStrong", fn := fun _ => fun
  | [d1, d2] => { results := [.lit (.bool true)], args := [d1, d2] }
  | _ => none }
def earsStrongRow : OpenClaim := { program := "ytakhklelgcfgjaadoor", sum := "bc3d276566624cf7801943b5cbd035d7b78794f8f0566bace59c4e3736350488", func := "lampblack/lampblacklaw04.EarsStrong", spec := "earsStrong", unfollowed := true, recurses := true, named := ["math/bits.deBruijn32tab", "math/bits.deBruijn64tab"], plainKeys := false, apart := false, laid := [("math/bits.deBruijn32tab", laid_math_bits_deBruijn32tab), ("math/bits.deBruijn64tab", laid_math_bits_deBruijn64tab)] }
def EarsStrongSaid : Prop := earsStrongRow.holds Tryd.pinned (OpenSpec.ofChange earsStrongSpec)

/-- ITS FALSE NEIGHBOUR: 'it returns false'. Refute it at one input. -/
def earsStrongWrong : ChangeSpec := { name := "earsStrong", fn := fun _ => fun
  | [d1, d2] => { results := [.lit (.bool false)], args := [d1, d2] }
  | _ => none }
def EarsStrongWrongFalsely : Prop := earsStrongRow.holds Tryd.pinned (OpenSpec.ofChange earsStrongWrong)

/-- 'lampblacklaw04.EarsNumbers': WHATEVER THE INPUT: true; the input reads as it did. -/
def earsNumbersSpec : ChangeSpec := { name := "earsNumbers", fn := fun _ => fun
  | [d1, d2, d3, d4] => { results := [.lit (.bool true)], args := [d1, d2, d3, d4] }
  | _ => none }
def earsNumbersRow : OpenClaim := { program := "ytakhklelgcfgjaadoor", sum := "bc3d276566624cf7801943b5cbd035d7b78794f8f0566bace59c4e3736350488", func := "lampblack/lampblacklaw04.EarsNumbers", spec := "earsNumbers", unfollowed := true, recurses := true, named := ["math/bits.deBruijn32tab", "math/bits.deBruijn64tab"], plainKeys := false, apart := false, laid := [("math/bits.deBruijn32tab", laid_math_bits_deBruijn32tab), ("math/bits.deBruijn64tab", laid_math_bits_deBruijn64tab)] }
def EarsNumbersSaid : Prop := earsNumbersRow.holds Tryd.pinned (OpenSpec.ofChange earsNumbersSpec)

/-- ITS FALSE NEIGHBOUR: 'it returns false'. Refute it at one input. -/
def earsNumbersWrong : ChangeSpec := { name := "earsNumbers", fn := fun _ => fun
  | [d1, d2, d3, d4] => { results := [.lit (.bool false)], args := [d1, d2, d3, d4] }
  | _ => none }
def EarsNumbersWrongFalsely : Prop := earsNumbersRow.holds Tryd.pinned (OpenSpec.ofChange earsNumbersWrong)

/-- 'lampblacklaw04.EarsCounted': WHATEVER THE INPUT: true; the input reads as it did. -/
def earsCountedSpec : ChangeSpec := { name := "earsCounted", fn := fun _ => fun
  | [d] => { results := [.lit (.bool true)], args := [d] }
  | _ => none }
def earsCountedRow : OpenClaim := { program := "ytakhklelgcfgjaadoor", sum := "bc3d276566624cf7801943b5cbd035d7b78794f8f0566bace59c4e3736350488", func := "lampblack/lampblacklaw04.EarsCounted", spec := "earsCounted", unfollowed := true, recurses := true, named := ["math/bits.deBruijn32tab", "math/bits.deBruijn64tab"], plainKeys := false, apart := false, laid := [("math/bits.deBruijn32tab", laid_math_bits_deBruijn32tab), ("math/bits.deBruijn64tab", laid_math_bits_deBruijn64tab)] }
def EarsCountedSaid : Prop := earsCountedRow.holds Tryd.pinned (OpenSpec.ofChange earsCountedSpec)

/-- ITS FALSE NEIGHBOUR: 'it returns false'. Refute it at one input. -/
def earsCountedWrong : ChangeSpec := { name := "earsCounted", fn := fun _ => fun
  | [d] => { results := [.lit (.bool false)], args := [d] }
  | _ => none }
def EarsCountedWrongFalsely : Prop := earsCountedRow.holds Tryd.pinned (OpenSpec.ofChange earsCountedWrong)

/-- 'lampblacklaw04.EarsBlocks': WHATEVER THE INPUT: true; the input reads as it did. -/
def earsBlocksSpec : ChangeSpec := { name := "earsBlocks", fn := fun _ => fun
  | [d] => { results := [.lit (.bool true)], args := [d] }
  | _ => none }
def earsBlocksRow : OpenClaim := { program := "ytakhklelgcfgjaadoor", sum := "bc3d276566624cf7801943b5cbd035d7b78794f8f0566bace59c4e3736350488", func := "lampblack/lampblacklaw04.EarsBlocks", spec := "earsBlocks", unfollowed := true, recurses := true, named := ["math/bits.deBruijn32tab", "math/bits.deBruijn64tab"], plainKeys := false, apart := false, laid := [("math/bits.deBruijn32tab", laid_math_bits_deBruijn32tab), ("math/bits.deBruijn64tab", laid_math_bits_deBruijn64tab)] }
def EarsBlocksSaid : Prop := earsBlocksRow.holds Tryd.pinned (OpenSpec.ofChange earsBlocksSpec)

/-- ITS FALSE NEIGHBOUR: 'it returns false'. Refute it at one input. -/
def earsBlocksWrong : ChangeSpec := { name := "earsBlocks", fn := fun _ => fun
  | [d] => { results := [.lit (.bool false)], args := [d] }
  | _ => none }
def EarsBlocksWrongFalsely : Prop := earsBlocksRow.holds Tryd.pinned (OpenSpec.ofChange earsBlocksWrong)

/-- 'lampblacklaw04.EarsCactus': WHATEVER THE INPUT: true; the input reads as it did. -/
def earsCactusSpec : ChangeSpec := { name := "earsCactus", fn := fun _ => fun
  | [d] => { results := [.lit (.bool true)], args := [d] }
  | _ => none }
def earsCactusRow : OpenClaim := { program := "ytakhklelgcfgjaadoor", sum := "bc3d276566624cf7801943b5cbd035d7b78794f8f0566bace59c4e3736350488", func := "lampblack/lampblacklaw04.EarsCactus", spec := "earsCactus", unfollowed := true, recurses := true, named := ["math/bits.deBruijn32tab", "math/bits.deBruijn64tab"], plainKeys := false, apart := false, laid := [("math/bits.deBruijn32tab", laid_math_bits_deBruijn32tab), ("math/bits.deBruijn64tab", laid_math_bits_deBruijn64tab)] }
def EarsCactusSaid : Prop := earsCactusRow.holds Tryd.pinned (OpenSpec.ofChange earsCactusSpec)

/-- ITS FALSE NEIGHBOUR: 'it returns false'. Refute it at one input. -/
def earsCactusWrong : ChangeSpec := { name := "earsCactus", fn := fun _ => fun
  | [d] => { results := [.lit (.bool false)], args := [d] }
  | _ => none }
def EarsCactusWrongFalsely : Prop := earsCactusRow.holds Tryd.pinned (OpenSpec.ofChange earsCactusWrong)

/-- 'lampblacklaw04.EarsParts': WHATEVER THE INPUT: true; the input reads as it did. -/
def earsPartsSpec : ChangeSpec := { name := "earsParts", fn := fun _ => fun
  | [d] => { results := [.lit (.bool true)], args := [d] }
  | _ => none }
def earsPartsRow : OpenClaim := { program := "ytakhklelgcfgjaadoor", sum := "bc3d276566624cf7801943b5cbd035d7b78794f8f0566bace59c4e3736350488", func := "lampblack/lampblacklaw04.EarsParts", spec := "earsParts", unfollowed := true, recurses := true, named := ["math/bits.deBruijn32tab", "math/bits.deBruijn64tab"], plainKeys := false, apart := false, laid := [("math/bits.deBruijn32tab", laid_math_bits_deBruijn32tab), ("math/bits.deBruijn64tab", laid_math_bits_deBruijn64tab)] }
def EarsPartsSaid : Prop := earsPartsRow.holds Tryd.pinned (OpenSpec.ofChange earsPartsSpec)

/-- ITS FALSE NEIGHBOUR: 'it returns false'. Refute it at one input. -/
def earsPartsWrong : ChangeSpec := { name := "earsParts", fn := fun _ => fun
  | [d] => { results := [.lit (.bool false)], args := [d] }
  | _ => none }
def EarsPartsWrongFalsely : Prop := earsPartsRow.holds Tryd.pinned (OpenSpec.ofChange earsPartsWrong)

/-- 'lampblacklaw04.EarsNames': WHATEVER THE INPUT: true; the input reads as it did. -/
def earsNamesSpec : ChangeSpec := { name := "earsNames", fn := fun _ => fun
  | [d1, d2] => { results := [.lit (.bool true)], args := [d1, d2] }
  | _ => none }
def earsNamesRow : OpenClaim := { program := "ytakhklelgcfgjaadoor", sum := "bc3d276566624cf7801943b5cbd035d7b78794f8f0566bace59c4e3736350488", func := "lampblack/lampblacklaw04.EarsNames", spec := "earsNames", unfollowed := true, recurses := true, named := ["math/bits.deBruijn32tab", "math/bits.deBruijn64tab"], plainKeys := false, apart := false, laid := [("math/bits.deBruijn32tab", laid_math_bits_deBruijn32tab), ("math/bits.deBruijn64tab", laid_math_bits_deBruijn64tab)] }
def EarsNamesSaid : Prop := earsNamesRow.holds Tryd.pinned (OpenSpec.ofChange earsNamesSpec)

/-- ITS FALSE NEIGHBOUR: 'it returns false'. Refute it at one input. -/
def earsNamesWrong : ChangeSpec := { name := "earsNames", fn := fun _ => fun
  | [d1, d2] => { results := [.lit (.bool false)], args := [d1, d2] }
  | _ => none }
def EarsNamesWrongFalsely : Prop := earsNamesRow.holds Tryd.pinned (OpenSpec.ofChange earsNamesWrong)

/-- 'lampblacklaw04.EarsTakes': WHATEVER THE INPUT: true; the input reads as it did. -/
def earsTakesSpec : ChangeSpec := { name := "earsTakes", fn := fun _ => fun
  | [d1, d2] => { results := [.lit (.bool true)], args := [d1, d2] }
  | _ => none }
def earsTakesRow : OpenClaim := { program := "ytakhklelgcfgjaadoor", sum := "bc3d276566624cf7801943b5cbd035d7b78794f8f0566bace59c4e3736350488", func := "lampblack/lampblacklaw04.EarsTakes", spec := "earsTakes", unfollowed := true, recurses := true, named := ["math/bits.deBruijn32tab", "math/bits.deBruijn64tab"], plainKeys := false, apart := false, laid := [("math/bits.deBruijn32tab", laid_math_bits_deBruijn32tab), ("math/bits.deBruijn64tab", laid_math_bits_deBruijn64tab)] }
def EarsTakesSaid : Prop := earsTakesRow.holds Tryd.pinned (OpenSpec.ofChange earsTakesSpec)

/-- ITS FALSE NEIGHBOUR: 'it returns false'. Refute it at one input. -/
def earsTakesWrong : ChangeSpec := { name := "earsTakes", fn := fun _ => fun
  | [d1, d2] => { results := [.lit (.bool false)], args := [d1, d2] }
  | _ => none }
def EarsTakesWrongFalsely : Prop := earsTakesRow.holds Tryd.pinned (OpenSpec.ofChange earsTakesWrong)

/-- 'lampblacklaw04.EarsDouble': WHATEVER THE INPUT: true; the input reads as it did. -/
def earsDoubleSpec : ChangeSpec := { name := "earsDouble", fn := fun _ => fun
  | [d1, d2, d3, d4] => { results := [.lit (.bool true)], args := [d1, d2, d3, d4] }
  | _ => none }
def earsDoubleRow : OpenClaim := { program := "ytakhklelgcfgjaadoor", sum := "bc3d276566624cf7801943b5cbd035d7b78794f8f0566bace59c4e3736350488", func := "lampblack/lampblacklaw04.EarsDouble", spec := "earsDouble", unfollowed := true, recurses := true, named := ["math/bits.deBruijn32tab", "math/bits.deBruijn64tab"], plainKeys := false, apart := false, laid := [("math/bits.deBruijn32tab", laid_math_bits_deBruijn32tab), ("math/bits.deBruijn64tab", laid_math_bits_deBruijn64tab)] }
def EarsDoubleSaid : Prop := earsDoubleRow.holds Tryd.pinned (OpenSpec.ofChange earsDoubleSpec)

/-- ITS FALSE NEIGHBOUR: 'it returns false'. Refute it at one input. -/
def earsDoubleWrong : ChangeSpec := { name := "earsDouble", fn := fun _ => fun
  | [d1, d2, d3, d4] => { results := [.lit (.bool false)], args := [d1, d2, d3, d4] }
  | _ => none }
def EarsDoubleWrongFalsely : Prop := earsDoubleRow.holds Tryd.pinned (OpenSpec.ofChange earsDoubleWrong)

/-- 'lampblacklaw04.EarsWays': WHATEVER THE INPUT: true; the input reads as it did. -/
def earsWaysSpec : ChangeSpec := { name := "earsWays", fn := fun _ => fun
  | [d1, d2, d3] => { results := [.lit (.bool true)], args := [d1, d2, d3] }
  | _ => none }
def earsWaysRow : OpenClaim := { program := "ytakhklelgcfgjaadoor", sum := "bc3d276566624cf7801943b5cbd035d7b78794f8f0566bace59c4e3736350488", func := "lampblack/lampblacklaw04.EarsWays", spec := "earsWays", unfollowed := true, recurses := true, named := ["math/bits.deBruijn32tab", "math/bits.deBruijn64tab"], plainKeys := false, apart := false, laid := [("math/bits.deBruijn32tab", laid_math_bits_deBruijn32tab), ("math/bits.deBruijn64tab", laid_math_bits_deBruijn64tab)] }
def EarsWaysSaid : Prop := earsWaysRow.holds Tryd.pinned (OpenSpec.ofChange earsWaysSpec)

/-- ITS FALSE NEIGHBOUR: 'it returns false'. Refute it at one input. -/
def earsWaysWrong : ChangeSpec := { name := "earsWays", fn := fun _ => fun
  | [d1, d2, d3] => { results := [.lit (.bool false)], args := [d1, d2, d3] }
  | _ => none }
def EarsWaysWrongFalsely : Prop := earsWaysRow.holds Tryd.pinned (OpenSpec.ofChange earsWaysWrong)

/-- 'lampblacklaw04.EarsMenger': WHATEVER THE INPUT: true; the input reads as it did. -/
def earsMengerSpec : ChangeSpec := { name := "earsMenger", fn := fun _ => fun
  | [d1, d2, d3] => { results := [.lit (.bool true)], args := [d1, d2, d3] }
  | _ => none }
def earsMengerRow : OpenClaim := { program := "ytakhklelgcfgjaadoor", sum := "bc3d276566624cf7801943b5cbd035d7b78794f8f0566bace59c4e3736350488", func := "lampblack/lampblacklaw04.EarsMenger", spec := "earsMenger", unfollowed := true, recurses := true, named := ["math/bits.deBruijn32tab", "math/bits.deBruijn64tab"], plainKeys := false, apart := false, laid := [("math/bits.deBruijn32tab", laid_math_bits_deBruijn32tab), ("math/bits.deBruijn64tab", laid_math_bits_deBruijn64tab)] }
def EarsMengerSaid : Prop := earsMengerRow.holds Tryd.pinned (OpenSpec.ofChange earsMengerSpec)

/-- ITS FALSE NEIGHBOUR: 'it returns false'. Refute it at one input. -/
def earsMengerWrong : ChangeSpec := { name := "earsMenger", fn := fun _ => fun
  | [d1, d2, d3] => { results := [.lit (.bool false)], args := [d1, d2, d3] }
  | _ => none }
def EarsMengerWrongFalsely : Prop := earsMengerRow.holds Tryd.pinned (OpenSpec.ofChange earsMengerWrong)

/- THE SECOND FORM. 'bulk': how many values and letters a reading holds, each counted each time it is reached (what is shared counts as often as it is met; a slice's spare places count too). A statement '..UptoSaid' is the law's where the arguments, and the package variables that the reading takes, are together of bulk at most 1048576: NARROWER than '..Said'. Prove '..Said' where nothing that the law and all that it calls make is longer than what came in: it says more and counts as full. Else prove '..UptoSaid'. A law counts once. -/
mutual
def uptoBulk {H : Type} : DataW H → Nat
  | .lit (.string bytes) => bytes.length + 1
  | .lit _ => 1
  | .nil => 1
  | .ptr d => uptoBulk d + 1
  | .slice elems spare => uptoBulkAll elems + uptoBulkAll spare + 1
  | .agg parts => uptoBulkAll parts + 1
  | .iface _ d => uptoBulk d + 1
  | .map entries => uptoBulkEntries entries + 1
  | .held _ => 1
def uptoBulkAll {H : Type} : List (DataW H) → Nat
  | [] => 0
  | d :: r => uptoBulk d + uptoBulkAll r
def uptoBulkEntries {H : Type} : List (Lit × DataW H) → Nat
  | [] => 0
  | x :: r => uptoBulkEntry x + uptoBulkEntries r
def uptoBulkEntry {H : Type} : Lit × DataW H → Nat
  | (.string bytes, d) => bytes.length + uptoBulk d + 1
  | (_, d) => uptoBulk d + 1
 end
def uptoSmall : (H : Type) → List (DataW H) → Bool := fun _ ds => decide (uptoBulkAll ds ≤ 1048576)
def OpenSpec.upto (s : _root_.Go.ChangeSpec) : _root_.Go.OpenSpec := { _root_.Go.OpenSpec.ofChange s with cond := some uptoSmall }

/-- 'lampblacklaw04.EarsPairs', WHERE WHAT IT READS IS OF BULK AT MOST 1048576: true; the input reads as it did. -/
def earsPairsUptoRow : OpenClaim := { program := "ytakhklelgcfgjaadoor", sum := "bc3d276566624cf7801943b5cbd035d7b78794f8f0566bace59c4e3736350488", func := "lampblack/lampblacklaw04.EarsPairs", spec := "earsPairs", unfollowed := true, recurses := true, named := ["math/bits.deBruijn32tab", "math/bits.deBruijn64tab"], plainKeys := false, apart := false, laid := [("math/bits.deBruijn32tab", laid_math_bits_deBruijn32tab), ("math/bits.deBruijn64tab", laid_math_bits_deBruijn64tab)], narrowed := true }
def EarsPairsUptoSaid : Prop := earsPairsUptoRow.holds Tryd.pinned (OpenSpec.upto earsPairsSpec)

/-- 'lampblacklaw04.EarsBridges', WHERE WHAT IT READS IS OF BULK AT MOST 1048576: true; the input reads as it did. -/
def earsBridgesUptoRow : OpenClaim := { program := "ytakhklelgcfgjaadoor", sum := "bc3d276566624cf7801943b5cbd035d7b78794f8f0566bace59c4e3736350488", func := "lampblack/lampblacklaw04.EarsBridges", spec := "earsBridges", unfollowed := true, recurses := true, named := ["math/bits.deBruijn32tab", "math/bits.deBruijn64tab"], plainKeys := false, apart := false, laid := [("math/bits.deBruijn32tab", laid_math_bits_deBruijn32tab), ("math/bits.deBruijn64tab", laid_math_bits_deBruijn64tab)], narrowed := true }
def EarsBridgesUptoSaid : Prop := earsBridgesUptoRow.holds Tryd.pinned (OpenSpec.upto earsBridgesSpec)

/-- 'lampblacklaw04.EarsOrients', WHERE WHAT IT READS IS OF BULK AT MOST 1048576: true; the input reads as it did. -/
def earsOrientsUptoRow : OpenClaim := { program := "ytakhklelgcfgjaadoor", sum := "bc3d276566624cf7801943b5cbd035d7b78794f8f0566bace59c4e3736350488", func := "lampblack/lampblacklaw04.EarsOrients", spec := "earsOrients", unfollowed := true, recurses := true, named := ["math/bits.deBruijn32tab", "math/bits.deBruijn64tab"], plainKeys := false, apart := false, laid := [("math/bits.deBruijn32tab", laid_math_bits_deBruijn32tab), ("math/bits.deBruijn64tab", laid_math_bits_deBruijn64tab)], narrowed := true }
def EarsOrientsUptoSaid : Prop := earsOrientsUptoRow.holds Tryd.pinned (OpenSpec.upto earsOrientsSpec)

/-- 'lampblacklaw04.EarsStrong', WHERE WHAT IT READS IS OF BULK AT MOST 1048576: true; the input reads as it did. -/
def earsStrongUptoRow : OpenClaim := { program := "ytakhklelgcfgjaadoor", sum := "bc3d276566624cf7801943b5cbd035d7b78794f8f0566bace59c4e3736350488", func := "lampblack/lampblacklaw04.EarsStrong", spec := "earsStrong", unfollowed := true, recurses := true, named := ["math/bits.deBruijn32tab", "math/bits.deBruijn64tab"], plainKeys := false, apart := false, laid := [("math/bits.deBruijn32tab", laid_math_bits_deBruijn32tab), ("math/bits.deBruijn64tab", laid_math_bits_deBruijn64tab)], narrowed := true }
def EarsStrongUptoSaid : Prop := earsStrongUptoRow.holds Tryd.pinned (OpenSpec.upto earsStrongSpec)

/-- 'lampblacklaw04.EarsNumbers', WHERE WHAT IT READS IS OF BULK AT MOST 1048576: true; the input reads as it did. -/
def earsNumbersUptoRow : OpenClaim := { program := "ytakhklelgcfgjaadoor", sum := "bc3d276566624cf7801943b5cbd035d7b78794f8f0566bace59c4e3736350488", func := "lampblack/lampblacklaw04.EarsNumbers", spec := "earsNumbers", unfollowed := true, recurses := true, named := ["math/bits.deBruijn32tab", "math/bits.deBruijn64tab"], plainKeys := false, apart := false, laid := [("math/bits.deBruijn32tab", laid_math_bits_deBruijn32tab), ("math/bits.deBruijn64tab", laid_math_bits_deBruijn64tab)], narrowed := true }
def EarsNumbersUptoSaid : Prop := earsNumbersUptoRow.holds Tryd.pinned (OpenSpec.upto earsNumbersSpec)

/-- 'lampblacklaw04.EarsCounted', WHERE WHAT IT READS IS OF BULK AT MOST 1048576: true; the input reads as it did. -/
def earsCountedUptoRow : OpenClaim := { program := "ytakhklelgcfgjaadoor", sum := "bc3d276566624cf7801943b5cbd035d7b78794f8f0566bace59c4e3736350488", func := "lampblack/lampblacklaw04.EarsCounted", spec := "earsCounted", unfollowed := true, recurses := true, named := ["math/bits.deBruijn32tab", "math/bits.deBruijn64tab"], plainKeys := false, apart := false, laid := [("math/bits.deBruijn32tab", laid_math_bits_deBruijn32tab), ("math/bits.deBruijn64tab", laid_math_bits_deBruijn64tab)], narrowed := true }
def EarsCountedUptoSaid : Prop := earsCountedUptoRow.holds Tryd.pinned (OpenSpec.upto earsCountedSpec)

/-- 'lampblacklaw04.EarsBlocks', WHERE WHAT IT READS IS OF BULK AT MOST 1048576: true; the input reads as it did. -/
def earsBlocksUptoRow : OpenClaim := { program := "ytakhklelgcfgjaadoor", sum := "bc3d276566624cf7801943b5cbd035d7b78794f8f0566bace59c4e3736350488", func := "lampblack/lampblacklaw04.EarsBlocks", spec := "earsBlocks", unfollowed := true, recurses := true, named := ["math/bits.deBruijn32tab", "math/bits.deBruijn64tab"], plainKeys := false, apart := false, laid := [("math/bits.deBruijn32tab", laid_math_bits_deBruijn32tab), ("math/bits.deBruijn64tab", laid_math_bits_deBruijn64tab)], narrowed := true }
def EarsBlocksUptoSaid : Prop := earsBlocksUptoRow.holds Tryd.pinned (OpenSpec.upto earsBlocksSpec)

/-- 'lampblacklaw04.EarsCactus', WHERE WHAT IT READS IS OF BULK AT MOST 1048576: true; the input reads as it did. -/
def earsCactusUptoRow : OpenClaim := { program := "ytakhklelgcfgjaadoor", sum := "bc3d276566624cf7801943b5cbd035d7b78794f8f0566bace59c4e3736350488", func := "lampblack/lampblacklaw04.EarsCactus", spec := "earsCactus", unfollowed := true, recurses := true, named := ["math/bits.deBruijn32tab", "math/bits.deBruijn64tab"], plainKeys := false, apart := false, laid := [("math/bits.deBruijn32tab", laid_math_bits_deBruijn32tab), ("math/bits.deBruijn64tab", laid_math_bits_deBruijn64tab)], narrowed := true }
def EarsCactusUptoSaid : Prop := earsCactusUptoRow.holds Tryd.pinned (OpenSpec.upto earsCactusSpec)

/-- 'lampblacklaw04.EarsParts', WHERE WHAT IT READS IS OF BULK AT MOST 1048576: true; the input reads as it did. -/
def earsPartsUptoRow : OpenClaim := { program := "ytakhklelgcfgjaadoor", sum := "bc3d276566624cf7801943b5cbd035d7b78794f8f0566bace59c4e3736350488", func := "lampblack/lampblacklaw04.EarsParts", spec := "earsParts", unfollowed := true, recurses := true, named := ["math/bits.deBruijn32tab", "math/bits.deBruijn64tab"], plainKeys := false, apart := false, laid := [("math/bits.deBruijn32tab", laid_math_bits_deBruijn32tab), ("math/bits.deBruijn64tab", laid_math_bits_deBruijn64tab)], narrowed := true }
def EarsPartsUptoSaid : Prop := earsPartsUptoRow.holds Tryd.pinned (OpenSpec.upto earsPartsSpec)

/-- 'lampblacklaw04.EarsNames', WHERE WHAT IT READS IS OF BULK AT MOST 1048576: true; the input reads as it did. -/
def earsNamesUptoRow : OpenClaim := { program := "ytakhklelgcfgjaadoor", sum := "bc3d276566624cf7801943b5cbd035d7b78794f8f0566bace59c4e3736350488", func := "lampblack/lampblacklaw04.EarsNames", spec := "earsNames", unfollowed := true, recurses := true, named := ["math/bits.deBruijn32tab", "math/bits.deBruijn64tab"], plainKeys := false, apart := false, laid := [("math/bits.deBruijn32tab", laid_math_bits_deBruijn32tab), ("math/bits.deBruijn64tab", laid_math_bits_deBruijn64tab)], narrowed := true }
def EarsNamesUptoSaid : Prop := earsNamesUptoRow.holds Tryd.pinned (OpenSpec.upto earsNamesSpec)

/-- 'lampblacklaw04.EarsTakes', WHERE WHAT IT READS IS OF BULK AT MOST 1048576: true; the input reads as it did. -/
def earsTakesUptoRow : OpenClaim := { program := "ytakhklelgcfgjaadoor", sum := "bc3d276566624cf7801943b5cbd035d7b78794f8f0566bace59c4e3736350488", func := "lampblack/lampblacklaw04.EarsTakes", spec := "earsTakes", unfollowed := true, recurses := true, named := ["math/bits.deBruijn32tab", "math/bits.deBruijn64tab"], plainKeys := false, apart := false, laid := [("math/bits.deBruijn32tab", laid_math_bits_deBruijn32tab), ("math/bits.deBruijn64tab", laid_math_bits_deBruijn64tab)], narrowed := true }
def EarsTakesUptoSaid : Prop := earsTakesUptoRow.holds Tryd.pinned (OpenSpec.upto earsTakesSpec)

/-- 'lampblacklaw04.EarsDouble', WHERE WHAT IT READS IS OF BULK AT MOST 1048576: true; the input reads as it did. -/
def earsDoubleUptoRow : OpenClaim := { program := "ytakhklelgcfgjaadoor", sum := "bc3d276566624cf7801943b5cbd035d7b78794f8f0566bace59c4e3736350488", func := "lampblack/lampblacklaw04.EarsDouble", spec := "earsDouble", unfollowed := true, recurses := true, named := ["math/bits.deBruijn32tab", "math/bits.deBruijn64tab"], plainKeys := false, apart := false, laid := [("math/bits.deBruijn32tab", laid_math_bits_deBruijn32tab), ("math/bits.deBruijn64tab", laid_math_bits_deBruijn64tab)], narrowed := true }
def EarsDoubleUptoSaid : Prop := earsDoubleUptoRow.holds Tryd.pinned (OpenSpec.upto earsDoubleSpec)

/-- 'lampblacklaw04.EarsWays', WHERE WHAT IT READS IS OF BULK AT MOST 1048576: true; the input reads as it did. -/
def earsWaysUptoRow : OpenClaim := { program := "ytakhklelgcfgjaadoor", sum := "bc3d276566624cf7801943b5cbd035d7b78794f8f0566bace59c4e3736350488", func := "lampblack/lampblacklaw04.EarsWays", spec := "earsWays", unfollowed := true, recurses := true, named := ["math/bits.deBruijn32tab", "math/bits.deBruijn64tab"], plainKeys := false, apart := false, laid := [("math/bits.deBruijn32tab", laid_math_bits_deBruijn32tab), ("math/bits.deBruijn64tab", laid_math_bits_deBruijn64tab)], narrowed := true }
def EarsWaysUptoSaid : Prop := earsWaysUptoRow.holds Tryd.pinned (OpenSpec.upto earsWaysSpec)

/-- 'lampblacklaw04.EarsMenger', WHERE WHAT IT READS IS OF BULK AT MOST 1048576: true; the input reads as it did. -/
def earsMengerUptoRow : OpenClaim := { program := "ytakhklelgcfgjaadoor", sum := "bc3d276566624cf7801943b5cbd035d7b78794f8f0566bace59c4e3736350488", func := "lampblack/lampblacklaw04.EarsMenger", spec := "earsMenger", unfollowed := true, recurses := true, named := ["math/bits.deBruijn32tab", "math/bits.deBruijn64tab"], plainKeys := false, apart := false, laid := [("math/bits.deBruijn32tab", laid_math_bits_deBruijn32tab), ("math/bits.deBruijn64tab", laid_math_bits_deBruijn64tab)], narrowed := true }
def EarsMengerUptoSaid : Prop := earsMengerUptoRow.holds Tryd.pinned (OpenSpec.upto earsMengerSpec)

end Rows
end Go.Proofs.YtakhklelgcfgjaaDoor
