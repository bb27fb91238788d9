/-
  DERIVED. GIVEN WITH THE SEED: THE CARDS: each row of YtphchobmencipaaDoorRows.lean that lists a variable, with what it lists TIED to the program's text (the seventh form; the later family's looks); each row that meets fmt, with fmt's text TOLD by the authors' own Lean function (tested against real Go, not proved from fmt's source: count such statements apart). THE CARD IS WHAT COUNTS. Prove the row's statement (the work); the ties are given (YtphchobmencipaaDoorTie.lean); close each card by the builder's one call (the guide's Derived/Test/ToyasCard.lean, 'card_holds'). Laid BY PROGRAM, IN A SANDBOX (cutbox-door.mjs). By AI agents, Wed Nov 11 2026. No macro, syntax, notation, axiom, sorry.
-/
import Derived.Test.YtphchobmencipaaDoorRows
import GoSem.ClaimSeven
namespace Go.Proofs.YtphchobmencipaaDoor
namespace Rows

/-- THE TIED CARD OF 'lampblacktop.TopBlocks'. -/
def topBlocksCard : Claim7 := { stood := { row := topBlocksRow, standIns := [], harness := (true, "c3dc0127390825aa107a9bbde6c43b41866eddecc3f76aaa2a8dabc7b532e859"), looks := false }, kinds := [], alts := [], laidByText := true, laidKinds := [.data, .data], laidTests := true, laidLooks := .later }
def TopBlocksCardSaid : Prop := Claim7.holds Tryd.pinned (.plain (OpenSpec.ofChange topBlocksSpec)) topBlocksCard

/-- THE TIED CARD OF 'lampblacktop.TopPairs'. -/
def topPairsCard : Claim7 := { stood := { row := topPairsRow, standIns := [], harness := (true, "c3dc0127390825aa107a9bbde6c43b41866eddecc3f76aaa2a8dabc7b532e859"), looks := false }, kinds := [], alts := [], laidByText := true, laidKinds := [.data, .data], laidTests := true, laidLooks := .later }
def TopPairsCardSaid : Prop := Claim7.holds Tryd.pinned (.plain (OpenSpec.ofChange topPairsSpec)) topPairsCard

/-- THE TIED CARD OF 'lampblacktop.TopCactus'. -/
def topCactusCard : Claim7 := { stood := { row := topCactusRow, standIns := [], harness := (true, "c3dc0127390825aa107a9bbde6c43b41866eddecc3f76aaa2a8dabc7b532e859"), looks := false }, kinds := [], alts := [], laidByText := true, laidKinds := [.data, .data], laidTests := true, laidLooks := .later }
def TopCactusCardSaid : Prop := Claim7.holds Tryd.pinned (.plain (OpenSpec.ofChange topCactusSpec)) topCactusCard

/-- THE TIED CARD OF 'lampblacktop.TopWide'. -/
def topWideCard : Claim7 := { stood := { row := topWideRow, standIns := [], harness := (true, "c3dc0127390825aa107a9bbde6c43b41866eddecc3f76aaa2a8dabc7b532e859"), looks := false }, kinds := [], alts := [], laidByText := true, laidKinds := [.data, .data], laidTests := true, laidLooks := .later }
def TopWideCardSaid : Prop := Claim7.holds Tryd.pinned (.plain (OpenSpec.ofChange topWideSpec)) topWideCard

/-- THE TIED CARD OF 'lampblacktop.TopCycle'. -/
def topCycleCard : Claim7 := { stood := { row := topCycleRow, standIns := [], harness := (true, "c3dc0127390825aa107a9bbde6c43b41866eddecc3f76aaa2a8dabc7b532e859"), looks := false }, kinds := [], alts := [], laidByText := true, laidKinds := [.data, .data], laidTests := true, laidLooks := .later }
def TopCycleCardSaid : Prop := Claim7.holds Tryd.pinned (.plain (OpenSpec.ofChange topCycleSpec)) topCycleCard

/-- THE SECOND FORM's CARD OF 'lampblacktop.TopBlocks'. -/
def topBlocksUptoCard : Claim7 := { stood := { row := topBlocksUptoRow, standIns := [], harness := (true, "c3dc0127390825aa107a9bbde6c43b41866eddecc3f76aaa2a8dabc7b532e859"), looks := false }, kinds := [], alts := [], laidByText := true, laidKinds := [.data, .data], laidTests := true, laidLooks := .later }
def TopBlocksUptoCardSaid : Prop := Claim7.holds Tryd.pinned (.plain (OpenSpec.upto topBlocksSpec)) topBlocksUptoCard

/-- THE SECOND FORM's CARD OF 'lampblacktop.TopPairs'. -/
def topPairsUptoCard : Claim7 := { stood := { row := topPairsUptoRow, standIns := [], harness := (true, "c3dc0127390825aa107a9bbde6c43b41866eddecc3f76aaa2a8dabc7b532e859"), looks := false }, kinds := [], alts := [], laidByText := true, laidKinds := [.data, .data], laidTests := true, laidLooks := .later }
def TopPairsUptoCardSaid : Prop := Claim7.holds Tryd.pinned (.plain (OpenSpec.upto topPairsSpec)) topPairsUptoCard

/-- THE SECOND FORM's CARD OF 'lampblacktop.TopCactus'. -/
def topCactusUptoCard : Claim7 := { stood := { row := topCactusUptoRow, standIns := [], harness := (true, "c3dc0127390825aa107a9bbde6c43b41866eddecc3f76aaa2a8dabc7b532e859"), looks := false }, kinds := [], alts := [], laidByText := true, laidKinds := [.data, .data], laidTests := true, laidLooks := .later }
def TopCactusUptoCardSaid : Prop := Claim7.holds Tryd.pinned (.plain (OpenSpec.upto topCactusSpec)) topCactusUptoCard

/-- THE SECOND FORM's CARD OF 'lampblacktop.TopWide'. -/
def topWideUptoCard : Claim7 := { stood := { row := topWideUptoRow, standIns := [], harness := (true, "c3dc0127390825aa107a9bbde6c43b41866eddecc3f76aaa2a8dabc7b532e859"), looks := false }, kinds := [], alts := [], laidByText := true, laidKinds := [.data, .data], laidTests := true, laidLooks := .later }
def TopWideUptoCardSaid : Prop := Claim7.holds Tryd.pinned (.plain (OpenSpec.upto topWideSpec)) topWideUptoCard

/-- THE SECOND FORM's CARD OF 'lampblacktop.TopCycle'. -/
def topCycleUptoCard : Claim7 := { stood := { row := topCycleUptoRow, standIns := [], harness := (true, "c3dc0127390825aa107a9bbde6c43b41866eddecc3f76aaa2a8dabc7b532e859"), looks := false }, kinds := [], alts := [], laidByText := true, laidKinds := [.data, .data], laidTests := true, laidLooks := .later }
def TopCycleUptoCardSaid : Prop := Claim7.holds Tryd.pinned (.plain (OpenSpec.upto topCycleSpec)) topCycleUptoCard
end Rows
end Go.Proofs.YtphchobmencipaaDoor
