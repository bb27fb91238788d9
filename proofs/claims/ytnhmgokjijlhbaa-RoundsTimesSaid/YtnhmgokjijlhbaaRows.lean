/-
  No cell of these rows narrows 'for every input' (looked for: loops, veiled, ifaces, maps, wideKeys, modest, calm, conditions, laid).
  DERIVED. THE GIVEN ROWS OF THIS SEAT. 14 by the template 'for every input the law returns true; each argument reads behind the call as it read before'; 0 by the template 'total and deterministic' (their statements: YtnhmgokjijlhbaaTotals.lean).
  GIVEN WITH THE SEED: the statements are not yours to turn. If you find one false, say at which input.
  Laid BY PROGRAM, IN A SANDBOX (cutbox-rows.mjs): the forced cells as the released guide's own fill.sh prints them over the translation 332e651e6b7c27a0… (all of the seat's roots in one cut). By AI agents, Wed Nov 11 2026. No macro, syntax, notation, axiom, sorry.
-/
import Derived.Test.YtnhmgokjijlhbaaChecked
import GoSem.Claim
import GoSem.ClaimJoined
import GoSem.ClaimMapViews
import Derived.JoinedTies
import Derived.KernelRfl
namespace Go.Proofs.Ytnhmgokjijlhbaa
/- THE CELL 'sum', in the pinned program and in every row, IS THE sha256 OF THE DUMP (.gsa) THAT YtnhmgokjijlhbaaProg.lean LOADS. Nothing in Lean hashes anything: it is a label: what it is worth is what the hold of that sum in a sandbox is worth. -/
noncomputable def Try.pinned : Pinned := { name := "ytnhmgokjijlhbaa", sum := "332e651e6b7c27a00cd79f3f86323d68355e12f23e83b08ef6fb775d07f65fc8", checked := Try.checked }
namespace Rows
def none {H : Type} : Left H := { results := [], args := [] }

/-- 'lampblacklaw05.RoundsLess': WHATEVER THE INPUT: true; the input reads as it did. -/
def roundsLessSpec : ChangeSpec := { name := "roundsLess", fn := fun _ => fun
  | [d1, d2] => { results := [.lit (.bool true)], args := [d1, d2] }
  | _ => none }
def roundsLessRow : OpenClaim := { program := "ytnhmgokjijlhbaa", sum := "332e651e6b7c27a00cd79f3f86323d68355e12f23e83b08ef6fb775d07f65fc8", func := "lampblack/lampblacklaw05.RoundsLess", spec := "roundsLess", unfollowed := true, recurses := true, apart := false }
def RoundsLessSaid : Prop := roundsLessRow.holds Try.pinned (OpenSpec.ofChange roundsLessSpec)

/-- ITS FALSE NEIGHBOUR: 'it returns false'. Refute it at one input. -/
def roundsLessWrong : ChangeSpec := { name := "roundsLess", fn := fun _ => fun
  | [d1, d2] => { results := [.lit (.bool false)], args := [d1, d2] }
  | _ => none }
def RoundsLessWrongFalsely : Prop := roundsLessRow.holds Try.pinned (OpenSpec.ofChange roundsLessWrong)

/-- 'lampblacklaw05.RoundsDensity': WHATEVER THE INPUT: true; the input reads as it did. -/
def roundsDensitySpec : ChangeSpec := { name := "roundsDensity", fn := fun _ => fun
  | [d] => { results := [.lit (.bool true)], args := [d] }
  | _ => none }
def roundsDensityRow : OpenClaim := { program := "ytnhmgokjijlhbaa", sum := "332e651e6b7c27a00cd79f3f86323d68355e12f23e83b08ef6fb775d07f65fc8", func := "lampblack/lampblacklaw05.RoundsDensity", spec := "roundsDensity", unfollowed := true, recurses := true, apart := false }
def RoundsDensitySaid : Prop := roundsDensityRow.holds Try.pinned (OpenSpec.ofChange roundsDensitySpec)

/-- ITS FALSE NEIGHBOUR: 'it returns false'. Refute it at one input. -/
def roundsDensityWrong : ChangeSpec := { name := "roundsDensity", fn := fun _ => fun
  | [d] => { results := [.lit (.bool false)], args := [d] }
  | _ => none }
def RoundsDensityWrongFalsely : Prop := roundsDensityRow.holds Try.pinned (OpenSpec.ofChange roundsDensityWrong)

/-- 'lampblacklaw05.RoundsDense': WHATEVER THE INPUT: true; the input reads as it did. -/
def roundsDenseSpec : ChangeSpec := { name := "roundsDense", fn := fun _ => fun
  | [d] => { results := [.lit (.bool true)], args := [d] }
  | _ => none }
def roundsDenseRow : OpenClaim := { program := "ytnhmgokjijlhbaa", sum := "332e651e6b7c27a00cd79f3f86323d68355e12f23e83b08ef6fb775d07f65fc8", func := "lampblack/lampblacklaw05.RoundsDense", spec := "roundsDense", unfollowed := true, recurses := true, apart := false }
def RoundsDenseSaid : Prop := roundsDenseRow.holds Try.pinned (OpenSpec.ofChange roundsDenseSpec)

/-- ITS FALSE NEIGHBOUR: 'it returns false'. Refute it at one input. -/
def roundsDenseWrong : ChangeSpec := { name := "roundsDense", fn := fun _ => fun
  | [d] => { results := [.lit (.bool false)], args := [d] }
  | _ => none }
def RoundsDenseWrongFalsely : Prop := roundsDenseRow.holds Try.pinned (OpenSpec.ofChange roundsDenseWrong)

/-- 'lampblacklaw05.RoundsLast': WHATEVER THE INPUT: true; the input reads as it did. -/
def roundsLastSpec : ChangeSpec := { name := "roundsLast", fn := fun _ => fun
  | [d] => { results := [.lit (.bool true)], args := [d] }
  | _ => none }
def roundsLastRow : OpenClaim := { program := "ytnhmgokjijlhbaa", sum := "332e651e6b7c27a00cd79f3f86323d68355e12f23e83b08ef6fb775d07f65fc8", func := "lampblack/lampblacklaw05.RoundsLast", spec := "roundsLast", unfollowed := true, recurses := true, apart := false }
def RoundsLastSaid : Prop := roundsLastRow.holds Try.pinned (OpenSpec.ofChange roundsLastSpec)

/-- ITS FALSE NEIGHBOUR: 'it returns false'. Refute it at one input. -/
def roundsLastWrong : ChangeSpec := { name := "roundsLast", fn := fun _ => fun
  | [d] => { results := [.lit (.bool false)], args := [d] }
  | _ => none }
def RoundsLastWrongFalsely : Prop := roundsLastRow.holds Try.pinned (OpenSpec.ofChange roundsLastWrong)

/-- 'lampblacklaw05.RoundsLived': WHATEVER THE INPUT: true; the input reads as it did. -/
def roundsLivedSpec : ChangeSpec := { name := "roundsLived", fn := fun _ => fun
  | [d1, d2, d3] => { results := [.lit (.bool true)], args := [d1, d2, d3] }
  | _ => none }
def roundsLivedRow : OpenClaim := { program := "ytnhmgokjijlhbaa", sum := "332e651e6b7c27a00cd79f3f86323d68355e12f23e83b08ef6fb775d07f65fc8", func := "lampblack/lampblacklaw05.RoundsLived", spec := "roundsLived", unfollowed := true, recurses := true, apart := false }
def RoundsLivedSaid : Prop := roundsLivedRow.holds Try.pinned (OpenSpec.ofChange roundsLivedSpec)

/-- ITS FALSE NEIGHBOUR: 'it returns false'. Refute it at one input. -/
def roundsLivedWrong : ChangeSpec := { name := "roundsLived", fn := fun _ => fun
  | [d1, d2, d3] => { results := [.lit (.bool false)], args := [d1, d2, d3] }
  | _ => none }
def RoundsLivedWrongFalsely : Prop := roundsLivedRow.holds Try.pinned (OpenSpec.ofChange roundsLivedWrong)

/-- 'lampblacklaw05.RoundsKeeps': WHATEVER THE INPUT: true; the input reads as it did. -/
def roundsKeepsSpec : ChangeSpec := { name := "roundsKeeps", fn := fun _ => fun
  | [d1, d2] => { results := [.lit (.bool true)], args := [d1, d2] }
  | _ => none }
def roundsKeepsRow : OpenClaim := { program := "ytnhmgokjijlhbaa", sum := "332e651e6b7c27a00cd79f3f86323d68355e12f23e83b08ef6fb775d07f65fc8", func := "lampblack/lampblacklaw05.RoundsKeeps", spec := "roundsKeeps", unfollowed := true, recurses := true, apart := false }
def RoundsKeepsSaid : Prop := roundsKeepsRow.holds Try.pinned (OpenSpec.ofChange roundsKeepsSpec)

/-- ITS FALSE NEIGHBOUR: 'it returns false'. Refute it at one input. -/
def roundsKeepsWrong : ChangeSpec := { name := "roundsKeeps", fn := fun _ => fun
  | [d1, d2] => { results := [.lit (.bool false)], args := [d1, d2] }
  | _ => none }
def RoundsKeepsWrongFalsely : Prop := roundsKeepsRow.holds Try.pinned (OpenSpec.ofChange roundsKeepsWrong)

/-- 'lampblacklaw05.RoundsLives': WHATEVER THE INPUT: true; the input reads as it did. -/
def roundsLivesSpec : ChangeSpec := { name := "roundsLives", fn := fun _ => fun
  | [d1, d2, d3] => { results := [.lit (.bool true)], args := [d1, d2, d3] }
  | _ => none }
def roundsLivesRow : OpenClaim := { program := "ytnhmgokjijlhbaa", sum := "332e651e6b7c27a00cd79f3f86323d68355e12f23e83b08ef6fb775d07f65fc8", func := "lampblack/lampblacklaw05.RoundsLives", spec := "roundsLives", unfollowed := true, recurses := true, apart := false }
def RoundsLivesSaid : Prop := roundsLivesRow.holds Try.pinned (OpenSpec.ofChange roundsLivesSpec)

/-- ITS FALSE NEIGHBOUR: 'it returns false'. Refute it at one input. -/
def roundsLivesWrong : ChangeSpec := { name := "roundsLives", fn := fun _ => fun
  | [d1, d2, d3] => { results := [.lit (.bool false)], args := [d1, d2, d3] }
  | _ => none }
def RoundsLivesWrongFalsely : Prop := roundsLivesRow.holds Try.pinned (OpenSpec.ofChange roundsLivesWrong)

/-- 'lampblacklaw05.RoundsTurns': WHATEVER THE INPUT: true; the input reads as it did. -/
def roundsTurnsSpec : ChangeSpec := { name := "roundsTurns", fn := fun _ => fun
  | [d1, d2] => { results := [.lit (.bool true)], args := [d1, d2] }
  | _ => none }
def roundsTurnsRow : OpenClaim := { program := "ytnhmgokjijlhbaa", sum := "332e651e6b7c27a00cd79f3f86323d68355e12f23e83b08ef6fb775d07f65fc8", func := "lampblack/lampblacklaw05.RoundsTurns", spec := "roundsTurns", unfollowed := true, recurses := true, apart := false }
def RoundsTurnsSaid : Prop := roundsTurnsRow.holds Try.pinned (OpenSpec.ofChange roundsTurnsSpec)

/-- ITS FALSE NEIGHBOUR: 'it returns false'. Refute it at one input. -/
def roundsTurnsWrong : ChangeSpec := { name := "roundsTurns", fn := fun _ => fun
  | [d1, d2] => { results := [.lit (.bool false)], args := [d1, d2] }
  | _ => none }
def RoundsTurnsWrongFalsely : Prop := roundsTurnsRow.holds Try.pinned (OpenSpec.ofChange roundsTurnsWrong)

/-- 'lampblacklaw05.RoundsSoot': WHATEVER THE INPUT: true; the input reads as it did. -/
def roundsSootSpec : ChangeSpec := { name := "roundsSoot", fn := fun _ => fun
  | [d1, d2, d3] => { results := [.lit (.bool true)], args := [d1, d2, d3] }
  | _ => none }
def roundsSootRow : OpenClaim := { program := "ytnhmgokjijlhbaa", sum := "332e651e6b7c27a00cd79f3f86323d68355e12f23e83b08ef6fb775d07f65fc8", func := "lampblack/lampblacklaw05.RoundsSoot", spec := "roundsSoot", unfollowed := true, recurses := true, apart := false }
def RoundsSootSaid : Prop := roundsSootRow.holds Try.pinned (OpenSpec.ofChange roundsSootSpec)

/-- ITS FALSE NEIGHBOUR: 'it returns false'. Refute it at one input. -/
def roundsSootWrong : ChangeSpec := { name := "roundsSoot", fn := fun _ => fun
  | [d1, d2, d3] => { results := [.lit (.bool false)], args := [d1, d2, d3] }
  | _ => none }
def RoundsSootWrongFalsely : Prop := roundsSootRow.holds Try.pinned (OpenSpec.ofChange roundsSootWrong)

/-- 'lampblacklaw05.RoundsGrown': WHATEVER THE INPUT: true; the input reads as it did. -/
def roundsGrownSpec : ChangeSpec := { name := "roundsGrown", fn := fun _ => fun
  | [d1, d2] => { results := [.lit (.bool true)], args := [d1, d2] }
  | _ => none }
def roundsGrownRow : OpenClaim := { program := "ytnhmgokjijlhbaa", sum := "332e651e6b7c27a00cd79f3f86323d68355e12f23e83b08ef6fb775d07f65fc8", func := "lampblack/lampblacklaw05.RoundsGrown", spec := "roundsGrown", unfollowed := true, recurses := true, apart := false }
def RoundsGrownSaid : Prop := roundsGrownRow.holds Try.pinned (OpenSpec.ofChange roundsGrownSpec)

/-- ITS FALSE NEIGHBOUR: 'it returns false'. Refute it at one input. -/
def roundsGrownWrong : ChangeSpec := { name := "roundsGrown", fn := fun _ => fun
  | [d1, d2] => { results := [.lit (.bool false)], args := [d1, d2] }
  | _ => none }
def RoundsGrownWrongFalsely : Prop := roundsGrownRow.holds Try.pinned (OpenSpec.ofChange roundsGrownWrong)

/-- 'lampblacklaw05.RoundsTables': WHATEVER THE INPUT: true; the input reads as it did. -/
def roundsTablesSpec : ChangeSpec := { name := "roundsTables", fn := fun _ => fun
  | [d1, d2] => { results := [.lit (.bool true)], args := [d1, d2] }
  | _ => none }
def roundsTablesRow : OpenClaim := { program := "ytnhmgokjijlhbaa", sum := "332e651e6b7c27a00cd79f3f86323d68355e12f23e83b08ef6fb775d07f65fc8", func := "lampblack/lampblacklaw05.RoundsTables", spec := "roundsTables", unfollowed := true, recurses := true, apart := false }
def RoundsTablesSaid : Prop := roundsTablesRow.holds Try.pinned (OpenSpec.ofChange roundsTablesSpec)

/-- ITS FALSE NEIGHBOUR: 'it returns false'. Refute it at one input. -/
def roundsTablesWrong : ChangeSpec := { name := "roundsTables", fn := fun _ => fun
  | [d1, d2] => { results := [.lit (.bool false)], args := [d1, d2] }
  | _ => none }
def RoundsTablesWrongFalsely : Prop := roundsTablesRow.holds Try.pinned (OpenSpec.ofChange roundsTablesWrong)

/-- 'lampblacklaw05.RoundsEither': WHATEVER THE INPUT: true; the input reads as it did. -/
def roundsEitherSpec : ChangeSpec := { name := "roundsEither", fn := fun _ => fun
  | [d] => { results := [.lit (.bool true)], args := [d] }
  | _ => none }
def roundsEitherRow : OpenClaim := { program := "ytnhmgokjijlhbaa", sum := "332e651e6b7c27a00cd79f3f86323d68355e12f23e83b08ef6fb775d07f65fc8", func := "lampblack/lampblacklaw05.RoundsEither", spec := "roundsEither", unfollowed := true, recurses := true, apart := false }
def RoundsEitherSaid : Prop := roundsEitherRow.holds Try.pinned (OpenSpec.ofChange roundsEitherSpec)

/-- ITS FALSE NEIGHBOUR: 'it returns false'. Refute it at one input. -/
def roundsEitherWrong : ChangeSpec := { name := "roundsEither", fn := fun _ => fun
  | [d] => { results := [.lit (.bool false)], args := [d] }
  | _ => none }
def RoundsEitherWrongFalsely : Prop := roundsEitherRow.holds Try.pinned (OpenSpec.ofChange roundsEitherWrong)

/-- 'lampblacklaw05.RoundsBlames': WHATEVER THE INPUT: true; the input reads as it did. -/
def roundsBlamesSpec : ChangeSpec := { name := "roundsBlames", fn := fun _ => fun
  | [d] => { results := [.lit (.bool true)], args := [d] }
  | _ => none }
def roundsBlamesRow : OpenClaim := { program := "ytnhmgokjijlhbaa", sum := "332e651e6b7c27a00cd79f3f86323d68355e12f23e83b08ef6fb775d07f65fc8", func := "lampblack/lampblacklaw05.RoundsBlames", spec := "roundsBlames", unfollowed := true, recurses := true, apart := false }
def RoundsBlamesSaid : Prop := roundsBlamesRow.holds Try.pinned (OpenSpec.ofChange roundsBlamesSpec)

/-- ITS FALSE NEIGHBOUR: 'it returns false'. Refute it at one input. -/
def roundsBlamesWrong : ChangeSpec := { name := "roundsBlames", fn := fun _ => fun
  | [d] => { results := [.lit (.bool false)], args := [d] }
  | _ => none }
def RoundsBlamesWrongFalsely : Prop := roundsBlamesRow.holds Try.pinned (OpenSpec.ofChange roundsBlamesWrong)

/-- 'lampblacklaw05.RoundsTimes': WHATEVER THE INPUT: true; the input reads as it did. -/
def roundsTimesSpec : ChangeSpec := { name := "roundsTimes", fn := fun _ => fun
  | [d1, d2, d3, d4] => { results := [.lit (.bool true)], args := [d1, d2, d3, d4] }
  | _ => none }
def roundsTimesRow : OpenClaim := { program := "ytnhmgokjijlhbaa", sum := "332e651e6b7c27a00cd79f3f86323d68355e12f23e83b08ef6fb775d07f65fc8", func := "lampblack/lampblacklaw05.RoundsTimes", spec := "roundsTimes", unfollowed := true, recurses := true, apart := false }
def RoundsTimesSaid : Prop := roundsTimesRow.holds Try.pinned (OpenSpec.ofChange roundsTimesSpec)

/-- ITS FALSE NEIGHBOUR: 'it returns false'. Refute it at one input. -/
def roundsTimesWrong : ChangeSpec := { name := "roundsTimes", fn := fun _ => fun
  | [d1, d2, d3, d4] => { results := [.lit (.bool false)], args := [d1, d2, d3, d4] }
  | _ => none }
def RoundsTimesWrongFalsely : Prop := roundsTimesRow.holds Try.pinned (OpenSpec.ofChange roundsTimesWrong)

/- THE SECOND FORM. 'bulk': how many values and letters a reading holds, each counted each time it is reached (what is shared counts as often as it is met; a slice's spare places count too). A statement '..UptoSaid' is the law's where the arguments, and the package variables that the reading takes, are together of bulk at most 1048576: NARROWER than '..Said'. Prove '..Said' where nothing that the law and all that it calls make is longer than what came in: it says more and counts as full. Else prove '..UptoSaid'. A law counts once. -/
mutual
def uptoBulk {H : Type} : DataW H → Nat
  | .lit (.string bytes) => bytes.length + 1
  | .lit _ => 1
  | .nil => 1
  | .ptr d => uptoBulk d + 1
  | .slice elems spare => uptoBulkAll elems + uptoBulkAll spare + 1
  | .agg parts => uptoBulkAll parts + 1
  | .iface _ d => uptoBulk d + 1
  | .map entries => uptoBulkEntries entries + 1
  | .held _ => 1
def uptoBulkAll {H : Type} : List (DataW H) → Nat
  | [] => 0
  | d :: r => uptoBulk d + uptoBulkAll r
def uptoBulkEntries {H : Type} : List (Lit × DataW H) → Nat
  | [] => 0
  | x :: r => uptoBulkEntry x + uptoBulkEntries r
def uptoBulkEntry {H : Type} : Lit × DataW H → Nat
  | (.string bytes, d) => bytes.length + uptoBulk d + 1
  | (_, d) => uptoBulk d + 1
 end
def uptoSmall : (H : Type) → List (DataW H) → Bool := fun _ ds => decide (uptoBulkAll ds ≤ 1048576)
def OpenSpec.upto (s : _root_.Go.ChangeSpec) : _root_.Go.OpenSpec := { _root_.Go.OpenSpec.ofChange s with cond := some uptoSmall }

/-- 'lampblacklaw05.RoundsLess', WHERE WHAT IT READS IS OF BULK AT MOST 1048576: true; the input reads as it did. -/
def roundsLessUptoRow : OpenClaim := { program := "ytnhmgokjijlhbaa", sum := "332e651e6b7c27a00cd79f3f86323d68355e12f23e83b08ef6fb775d07f65fc8", func := "lampblack/lampblacklaw05.RoundsLess", spec := "roundsLess", unfollowed := true, recurses := true, apart := false, narrowed := true }
def RoundsLessUptoSaid : Prop := roundsLessUptoRow.holds Try.pinned (OpenSpec.upto roundsLessSpec)

/-- 'lampblacklaw05.RoundsDensity', WHERE WHAT IT READS IS OF BULK AT MOST 1048576: true; the input reads as it did. -/
def roundsDensityUptoRow : OpenClaim := { program := "ytnhmgokjijlhbaa", sum := "332e651e6b7c27a00cd79f3f86323d68355e12f23e83b08ef6fb775d07f65fc8", func := "lampblack/lampblacklaw05.RoundsDensity", spec := "roundsDensity", unfollowed := true, recurses := true, apart := false, narrowed := true }
def RoundsDensityUptoSaid : Prop := roundsDensityUptoRow.holds Try.pinned (OpenSpec.upto roundsDensitySpec)

/-- 'lampblacklaw05.RoundsDense', WHERE WHAT IT READS IS OF BULK AT MOST 1048576: true; the input reads as it did. -/
def roundsDenseUptoRow : OpenClaim := { program := "ytnhmgokjijlhbaa", sum := "332e651e6b7c27a00cd79f3f86323d68355e12f23e83b08ef6fb775d07f65fc8", func := "lampblack/lampblacklaw05.RoundsDense", spec := "roundsDense", unfollowed := true, recurses := true, apart := false, narrowed := true }
def RoundsDenseUptoSaid : Prop := roundsDenseUptoRow.holds Try.pinned (OpenSpec.upto roundsDenseSpec)

/-- 'lampblacklaw05.RoundsLast', WHERE WHAT IT READS IS OF BULK AT MOST 1048576: true; the input reads as it did. -/
def roundsLastUptoRow : OpenClaim := { program := "ytnhmgokjijlhbaa", sum := "332e651e6b7c27a00cd79f3f86323d68355e12f23e83b08ef6fb775d07f65fc8", func := "lampblack/lampblacklaw05.RoundsLast", spec := "roundsLast", unfollowed := true, recurses := true, apart := false, narrowed := true }
def RoundsLastUptoSaid : Prop := roundsLastUptoRow.holds Try.pinned (OpenSpec.upto roundsLastSpec)

/-- 'lampblacklaw05.RoundsLived', WHERE WHAT IT READS IS OF BULK AT MOST 1048576: true; the input reads as it did. -/
def roundsLivedUptoRow : OpenClaim := { program := "ytnhmgokjijlhbaa", sum := "332e651e6b7c27a00cd79f3f86323d68355e12f23e83b08ef6fb775d07f65fc8", func := "lampblack/lampblacklaw05.RoundsLived", spec := "roundsLived", unfollowed := true, recurses := true, apart := false, narrowed := true }
def RoundsLivedUptoSaid : Prop := roundsLivedUptoRow.holds Try.pinned (OpenSpec.upto roundsLivedSpec)

/-- 'lampblacklaw05.RoundsKeeps', WHERE WHAT IT READS IS OF BULK AT MOST 1048576: true; the input reads as it did. -/
def roundsKeepsUptoRow : OpenClaim := { program := "ytnhmgokjijlhbaa", sum := "332e651e6b7c27a00cd79f3f86323d68355e12f23e83b08ef6fb775d07f65fc8", func := "lampblack/lampblacklaw05.RoundsKeeps", spec := "roundsKeeps", unfollowed := true, recurses := true, apart := false, narrowed := true }
def RoundsKeepsUptoSaid : Prop := roundsKeepsUptoRow.holds Try.pinned (OpenSpec.upto roundsKeepsSpec)

/-- 'lampblacklaw05.RoundsLives', WHERE WHAT IT READS IS OF BULK AT MOST 1048576: true; the input reads as it did. -/
def roundsLivesUptoRow : OpenClaim := { program := "ytnhmgokjijlhbaa", sum := "332e651e6b7c27a00cd79f3f86323d68355e12f23e83b08ef6fb775d07f65fc8", func := "lampblack/lampblacklaw05.RoundsLives", spec := "roundsLives", unfollowed := true, recurses := true, apart := false, narrowed := true }
def RoundsLivesUptoSaid : Prop := roundsLivesUptoRow.holds Try.pinned (OpenSpec.upto roundsLivesSpec)

/-- 'lampblacklaw05.RoundsTurns', WHERE WHAT IT READS IS OF BULK AT MOST 1048576: true; the input reads as it did. -/
def roundsTurnsUptoRow : OpenClaim := { program := "ytnhmgokjijlhbaa", sum := "332e651e6b7c27a00cd79f3f86323d68355e12f23e83b08ef6fb775d07f65fc8", func := "lampblack/lampblacklaw05.RoundsTurns", spec := "roundsTurns", unfollowed := true, recurses := true, apart := false, narrowed := true }
def RoundsTurnsUptoSaid : Prop := roundsTurnsUptoRow.holds Try.pinned (OpenSpec.upto roundsTurnsSpec)

/-- 'lampblacklaw05.RoundsSoot', WHERE WHAT IT READS IS OF BULK AT MOST 1048576: true; the input reads as it did. -/
def roundsSootUptoRow : OpenClaim := { program := "ytnhmgokjijlhbaa", sum := "332e651e6b7c27a00cd79f3f86323d68355e12f23e83b08ef6fb775d07f65fc8", func := "lampblack/lampblacklaw05.RoundsSoot", spec := "roundsSoot", unfollowed := true, recurses := true, apart := false, narrowed := true }
def RoundsSootUptoSaid : Prop := roundsSootUptoRow.holds Try.pinned (OpenSpec.upto roundsSootSpec)

/-- 'lampblacklaw05.RoundsGrown', WHERE WHAT IT READS IS OF BULK AT MOST 1048576: true; the input reads as it did. -/
def roundsGrownUptoRow : OpenClaim := { program := "ytnhmgokjijlhbaa", sum := "332e651e6b7c27a00cd79f3f86323d68355e12f23e83b08ef6fb775d07f65fc8", func := "lampblack/lampblacklaw05.RoundsGrown", spec := "roundsGrown", unfollowed := true, recurses := true, apart := false, narrowed := true }
def RoundsGrownUptoSaid : Prop := roundsGrownUptoRow.holds Try.pinned (OpenSpec.upto roundsGrownSpec)

/-- 'lampblacklaw05.RoundsTables', WHERE WHAT IT READS IS OF BULK AT MOST 1048576: true; the input reads as it did. -/
def roundsTablesUptoRow : OpenClaim := { program := "ytnhmgokjijlhbaa", sum := "332e651e6b7c27a00cd79f3f86323d68355e12f23e83b08ef6fb775d07f65fc8", func := "lampblack/lampblacklaw05.RoundsTables", spec := "roundsTables", unfollowed := true, recurses := true, apart := false, narrowed := true }
def RoundsTablesUptoSaid : Prop := roundsTablesUptoRow.holds Try.pinned (OpenSpec.upto roundsTablesSpec)

/-- 'lampblacklaw05.RoundsEither', WHERE WHAT IT READS IS OF BULK AT MOST 1048576: true; the input reads as it did. -/
def roundsEitherUptoRow : OpenClaim := { program := "ytnhmgokjijlhbaa", sum := "332e651e6b7c27a00cd79f3f86323d68355e12f23e83b08ef6fb775d07f65fc8", func := "lampblack/lampblacklaw05.RoundsEither", spec := "roundsEither", unfollowed := true, recurses := true, apart := false, narrowed := true }
def RoundsEitherUptoSaid : Prop := roundsEitherUptoRow.holds Try.pinned (OpenSpec.upto roundsEitherSpec)

/-- 'lampblacklaw05.RoundsBlames', WHERE WHAT IT READS IS OF BULK AT MOST 1048576: true; the input reads as it did. -/
def roundsBlamesUptoRow : OpenClaim := { program := "ytnhmgokjijlhbaa", sum := "332e651e6b7c27a00cd79f3f86323d68355e12f23e83b08ef6fb775d07f65fc8", func := "lampblack/lampblacklaw05.RoundsBlames", spec := "roundsBlames", unfollowed := true, recurses := true, apart := false, narrowed := true }
def RoundsBlamesUptoSaid : Prop := roundsBlamesUptoRow.holds Try.pinned (OpenSpec.upto roundsBlamesSpec)

/-- 'lampblacklaw05.RoundsTimes', WHERE WHAT IT READS IS OF BULK AT MOST 1048576: true; the input reads as it did. -/
def roundsTimesUptoRow : OpenClaim := { program := "ytnhmgokjijlhbaa", sum := "332e651e6b7c27a00cd79f3f86323d68355e12f23e83b08ef6fb775d07f65fc8", func := "lampblack/lampblacklaw05.RoundsTimes", spec := "roundsTimes", unfollowed := true, recurses := true, apart := false, narrowed := true }
def RoundsTimesUptoSaid : Prop := roundsTimesUptoRow.holds Try.pinned (OpenSpec.upto roundsTimesSpec)

end Rows
end Go.Proofs.Ytnhmgokjijlhbaa
