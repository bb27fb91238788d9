/-
  DERIVED. GIVEN WITH THE SEED: THE CARDS: each row of YtakhklelgcfgjaaDoorRows.lean that lists a variable, with what it lists TIED to the program's text (the seventh form; the later family's looks); each row that meets fmt, with fmt's text TOLD by the authors' own Lean function (tested against real Go, not proved from fmt's source: count such statements apart). THE CARD IS WHAT COUNTS. Prove the row's statement (the work); the ties are given (YtakhklelgcfgjaaDoorTie.lean); close each card by the builder's one call (the guide's Derived/Test/ToyasCard.lean, 'card_holds'). Laid BY PROGRAM, IN A SANDBOX (cutbox-door.mjs). By AI agents, Wed Nov 11 2026. No macro, syntax, notation, axiom, sorry.
-/
import Derived.Test.YtakhklelgcfgjaaDoorRows
import GoSem.ClaimSeven
namespace Go.Proofs.YtakhklelgcfgjaaDoor
namespace Rows

/-- THE TIED CARD OF 'lampblacklaw04.EarsPairs'. -/
def earsPairsCard : Claim7 := { stood := { row := earsPairsRow, standIns := [], harness := (true, "570bf1d066ae3836a4e8e0ded53d450373981f83115a8a7740fb68e1598663a5"), looks := false }, kinds := [], alts := [], laidByText := true, laidKinds := [.data, .data], laidTests := true, laidLooks := .later }
def EarsPairsCardSaid : Prop := Claim7.holds Tryd.pinned (.plain (OpenSpec.ofChange earsPairsSpec)) earsPairsCard

/-- THE TIED CARD OF 'lampblacklaw04.EarsBridges'. -/
def earsBridgesCard : Claim7 := { stood := { row := earsBridgesRow, standIns := [], harness := (true, "570bf1d066ae3836a4e8e0ded53d450373981f83115a8a7740fb68e1598663a5"), looks := false }, kinds := [], alts := [], laidByText := true, laidKinds := [.data, .data], laidTests := true, laidLooks := .later }
def EarsBridgesCardSaid : Prop := Claim7.holds Tryd.pinned (.plain (OpenSpec.ofChange earsBridgesSpec)) earsBridgesCard

/-- THE TIED CARD OF 'lampblacklaw04.EarsOrients'. -/
def earsOrientsCard : Claim7 := { stood := { row := earsOrientsRow, standIns := [], harness := (true, "570bf1d066ae3836a4e8e0ded53d450373981f83115a8a7740fb68e1598663a5"), looks := false }, kinds := [], alts := [], laidByText := true, laidKinds := [.data, .data], laidTests := true, laidLooks := .later }
def EarsOrientsCardSaid : Prop := Claim7.holds Tryd.pinned (.plain (OpenSpec.ofChange earsOrientsSpec)) earsOrientsCard

/-- THE TIED CARD OF 'lampblacklaw04.EarsStrong'. -/
def earsStrongCard : Claim7 := { stood := { row := earsStrongRow, standIns := [], harness := (true, "570bf1d066ae3836a4e8e0ded53d450373981f83115a8a7740fb68e1598663a5"), looks := false }, kinds := [], alts := [], laidByText := true, laidKinds := [.data, .data], laidTests := true, laidLooks := .later }
def EarsStrongCardSaid : Prop := Claim7.holds Tryd.pinned (.plain (OpenSpec.ofChange earsStrongSpec)) earsStrongCard

/-- THE TIED CARD OF 'lampblacklaw04.EarsNumbers'. -/
def earsNumbersCard : Claim7 := { stood := { row := earsNumbersRow, standIns := [], harness := (true, "570bf1d066ae3836a4e8e0ded53d450373981f83115a8a7740fb68e1598663a5"), looks := false }, kinds := [], alts := [], laidByText := true, laidKinds := [.data, .data], laidTests := true, laidLooks := .later }
def EarsNumbersCardSaid : Prop := Claim7.holds Tryd.pinned (.plain (OpenSpec.ofChange earsNumbersSpec)) earsNumbersCard

/-- THE TIED CARD OF 'lampblacklaw04.EarsCounted'. -/
def earsCountedCard : Claim7 := { stood := { row := earsCountedRow, standIns := [], harness := (true, "570bf1d066ae3836a4e8e0ded53d450373981f83115a8a7740fb68e1598663a5"), looks := false }, kinds := [], alts := [], laidByText := true, laidKinds := [.data, .data], laidTests := true, laidLooks := .later }
def EarsCountedCardSaid : Prop := Claim7.holds Tryd.pinned (.plain (OpenSpec.ofChange earsCountedSpec)) earsCountedCard

/-- THE TIED CARD OF 'lampblacklaw04.EarsBlocks'. -/
def earsBlocksCard : Claim7 := { stood := { row := earsBlocksRow, standIns := [], harness := (true, "570bf1d066ae3836a4e8e0ded53d450373981f83115a8a7740fb68e1598663a5"), looks := false }, kinds := [], alts := [], laidByText := true, laidKinds := [.data, .data], laidTests := true, laidLooks := .later }
def EarsBlocksCardSaid : Prop := Claim7.holds Tryd.pinned (.plain (OpenSpec.ofChange earsBlocksSpec)) earsBlocksCard

/-- THE TIED CARD OF 'lampblacklaw04.EarsCactus'. -/
def earsCactusCard : Claim7 := { stood := { row := earsCactusRow, standIns := [], harness := (true, "570bf1d066ae3836a4e8e0ded53d450373981f83115a8a7740fb68e1598663a5"), looks := false }, kinds := [], alts := [], laidByText := true, laidKinds := [.data, .data], laidTests := true, laidLooks := .later }
def EarsCactusCardSaid : Prop := Claim7.holds Tryd.pinned (.plain (OpenSpec.ofChange earsCactusSpec)) earsCactusCard

/-- THE TIED CARD OF 'lampblacklaw04.EarsParts'. -/
def earsPartsCard : Claim7 := { stood := { row := earsPartsRow, standIns := [], harness := (true, "570bf1d066ae3836a4e8e0ded53d450373981f83115a8a7740fb68e1598663a5"), looks := false }, kinds := [], alts := [], laidByText := true, laidKinds := [.data, .data], laidTests := true, laidLooks := .later }
def EarsPartsCardSaid : Prop := Claim7.holds Tryd.pinned (.plain (OpenSpec.ofChange earsPartsSpec)) earsPartsCard

/-- THE TIED CARD OF 'lampblacklaw04.EarsNames'. -/
def earsNamesCard : Claim7 := { stood := { row := earsNamesRow, standIns := [], harness := (true, "570bf1d066ae3836a4e8e0ded53d450373981f83115a8a7740fb68e1598663a5"), looks := false }, kinds := [], alts := [], laidByText := true, laidKinds := [.data, .data], laidTests := true, laidLooks := .later }
def EarsNamesCardSaid : Prop := Claim7.holds Tryd.pinned (.plain (OpenSpec.ofChange earsNamesSpec)) earsNamesCard

/-- THE TIED CARD OF 'lampblacklaw04.EarsTakes'. -/
def earsTakesCard : Claim7 := { stood := { row := earsTakesRow, standIns := [], harness := (true, "570bf1d066ae3836a4e8e0ded53d450373981f83115a8a7740fb68e1598663a5"), looks := false }, kinds := [], alts := [], laidByText := true, laidKinds := [.data, .data], laidTests := true, laidLooks := .later }
def EarsTakesCardSaid : Prop := Claim7.holds Tryd.pinned (.plain (OpenSpec.ofChange earsTakesSpec)) earsTakesCard

/-- THE TIED CARD OF 'lampblacklaw04.EarsDouble'. -/
def earsDoubleCard : Claim7 := { stood := { row := earsDoubleRow, standIns := [], harness := (true, "570bf1d066ae3836a4e8e0ded53d450373981f83115a8a7740fb68e1598663a5"), looks := false }, kinds := [], alts := [], laidByText := true, laidKinds := [.data, .data], laidTests := true, laidLooks := .later }
def EarsDoubleCardSaid : Prop := Claim7.holds Tryd.pinned (.plain (OpenSpec.ofChange earsDoubleSpec)) earsDoubleCard

/-- THE TIED CARD OF 'lampblacklaw04.EarsWays'. -/
def earsWaysCard : Claim7 := { stood := { row := earsWaysRow, standIns := [], harness := (true, "570bf1d066ae3836a4e8e0ded53d450373981f83115a8a7740fb68e1598663a5"), looks := false }, kinds := [], alts := [], laidByText := true, laidKinds := [.data, .data], laidTests := true, laidLooks := .later }
def EarsWaysCardSaid : Prop := Claim7.holds Tryd.pinned (.plain (OpenSpec.ofChange earsWaysSpec)) earsWaysCard

/-- THE TIED CARD OF 'lampblacklaw04.EarsMenger'. -/
def earsMengerCard : Claim7 := { stood := { row := earsMengerRow, standIns := [], harness := (true, "570bf1d066ae3836a4e8e0ded53d450373981f83115a8a7740fb68e1598663a5"), looks := false }, kinds := [], alts := [], laidByText := true, laidKinds := [.data, .data], laidTests := true, laidLooks := .later }
def EarsMengerCardSaid : Prop := Claim7.holds Tryd.pinned (.plain (OpenSpec.ofChange earsMengerSpec)) earsMengerCard

/-- THE SECOND FORM's CARD OF 'lampblacklaw04.EarsPairs'. -/
def earsPairsUptoCard : Claim7 := { stood := { row := earsPairsUptoRow, standIns := [], harness := (true, "570bf1d066ae3836a4e8e0ded53d450373981f83115a8a7740fb68e1598663a5"), looks := false }, kinds := [], alts := [], laidByText := true, laidKinds := [.data, .data], laidTests := true, laidLooks := .later }
def EarsPairsUptoCardSaid : Prop := Claim7.holds Tryd.pinned (.plain (OpenSpec.upto earsPairsSpec)) earsPairsUptoCard

/-- THE SECOND FORM's CARD OF 'lampblacklaw04.EarsBridges'. -/
def earsBridgesUptoCard : Claim7 := { stood := { row := earsBridgesUptoRow, standIns := [], harness := (true, "570bf1d066ae3836a4e8e0ded53d450373981f83115a8a7740fb68e1598663a5"), looks := false }, kinds := [], alts := [], laidByText := true, laidKinds := [.data, .data], laidTests := true, laidLooks := .later }
def EarsBridgesUptoCardSaid : Prop := Claim7.holds Tryd.pinned (.plain (OpenSpec.upto earsBridgesSpec)) earsBridgesUptoCard

/-- THE SECOND FORM's CARD OF 'lampblacklaw04.EarsOrients'. -/
def earsOrientsUptoCard : Claim7 := { stood := { row := earsOrientsUptoRow, standIns := [], harness := (true, "570bf1d066ae3836a4e8e0ded53d450373981f83115a8a7740fb68e1598663a5"), looks := false }, kinds := [], alts := [], laidByText := true, laidKinds := [.data, .data], laidTests := true, laidLooks := .later }
def EarsOrientsUptoCardSaid : Prop := Claim7.holds Tryd.pinned (.plain (OpenSpec.upto earsOrientsSpec)) earsOrientsUptoCard

/-- THE SECOND FORM's CARD OF 'lampblacklaw04.EarsStrong'. -/
def earsStrongUptoCard : Claim7 := { stood := { row := earsStrongUptoRow, standIns := [], harness := (true, "570bf1d066ae3836a4e8e0ded53d450373981f83115a8a7740fb68e1598663a5"), looks := false }, kinds := [], alts := [], laidByText := true, laidKinds := [.data, .data], laidTests := true, laidLooks := .later }
def EarsStrongUptoCardSaid : Prop := Claim7.holds Tryd.pinned (.plain (OpenSpec.upto earsStrongSpec)) earsStrongUptoCard

/-- THE SECOND FORM's CARD OF 'lampblacklaw04.EarsNumbers'. -/
def earsNumbersUptoCard : Claim7 := { stood := { row := earsNumbersUptoRow, standIns := [], harness := (true, "570bf1d066ae3836a4e8e0ded53d450373981f83115a8a7740fb68e1598663a5"), looks := false }, kinds := [], alts := [], laidByText := true, laidKinds := [.data, .data], laidTests := true, laidLooks := .later }
def EarsNumbersUptoCardSaid : Prop := Claim7.holds Tryd.pinned (.plain (OpenSpec.upto earsNumbersSpec)) earsNumbersUptoCard

/-- THE SECOND FORM's CARD OF 'lampblacklaw04.EarsCounted'. -/
def earsCountedUptoCard : Claim7 := { stood := { row := earsCountedUptoRow, standIns := [], harness := (true, "570bf1d066ae3836a4e8e0ded53d450373981f83115a8a7740fb68e1598663a5"), looks := false }, kinds := [], alts := [], laidByText := true, laidKinds := [.data, .data], laidTests := true, laidLooks := .later }
def EarsCountedUptoCardSaid : Prop := Claim7.holds Tryd.pinned (.plain (OpenSpec.upto earsCountedSpec)) earsCountedUptoCard

/-- THE SECOND FORM's CARD OF 'lampblacklaw04.EarsBlocks'. -/
def earsBlocksUptoCard : Claim7 := { stood := { row := earsBlocksUptoRow, standIns := [], harness := (true, "570bf1d066ae3836a4e8e0ded53d450373981f83115a8a7740fb68e1598663a5"), looks := false }, kinds := [], alts := [], laidByText := true, laidKinds := [.data, .data], laidTests := true, laidLooks := .later }
def EarsBlocksUptoCardSaid : Prop := Claim7.holds Tryd.pinned (.plain (OpenSpec.upto earsBlocksSpec)) earsBlocksUptoCard

/-- THE SECOND FORM's CARD OF 'lampblacklaw04.EarsCactus'. -/
def earsCactusUptoCard : Claim7 := { stood := { row := earsCactusUptoRow, standIns := [], harness := (true, "570bf1d066ae3836a4e8e0ded53d450373981f83115a8a7740fb68e1598663a5"), looks := false }, kinds := [], alts := [], laidByText := true, laidKinds := [.data, .data], laidTests := true, laidLooks := .later }
def EarsCactusUptoCardSaid : Prop := Claim7.holds Tryd.pinned (.plain (OpenSpec.upto earsCactusSpec)) earsCactusUptoCard

/-- THE SECOND FORM's CARD OF 'lampblacklaw04.EarsParts'. -/
def earsPartsUptoCard : Claim7 := { stood := { row := earsPartsUptoRow, standIns := [], harness := (true, "570bf1d066ae3836a4e8e0ded53d450373981f83115a8a7740fb68e1598663a5"), looks := false }, kinds := [], alts := [], laidByText := true, laidKinds := [.data, .data], laidTests := true, laidLooks := .later }
def EarsPartsUptoCardSaid : Prop := Claim7.holds Tryd.pinned (.plain (OpenSpec.upto earsPartsSpec)) earsPartsUptoCard

/-- THE SECOND FORM's CARD OF 'lampblacklaw04.EarsNames'. -/
def earsNamesUptoCard : Claim7 := { stood := { row := earsNamesUptoRow, standIns := [], harness := (true, "570bf1d066ae3836a4e8e0ded53d450373981f83115a8a7740fb68e1598663a5"), looks := false }, kinds := [], alts := [], laidByText := true, laidKinds := [.data, .data], laidTests := true, laidLooks := .later }
def EarsNamesUptoCardSaid : Prop := Claim7.holds Tryd.pinned (.plain (OpenSpec.upto earsNamesSpec)) earsNamesUptoCard

/-- THE SECOND FORM's CARD OF 'lampblacklaw04.EarsTakes'. -/
def earsTakesUptoCard : Claim7 := { stood := { row := earsTakesUptoRow, standIns := [], harness := (true, "570bf1d066ae3836a4e8e0ded53d450373981f83115a8a7740fb68e1598663a5"), looks := false }, kinds := [], alts := [], laidByText := true, laidKinds := [.data, .data], laidTests := true, laidLooks := .later }
def EarsTakesUptoCardSaid : Prop := Claim7.holds Tryd.pinned (.plain (OpenSpec.upto earsTakesSpec)) earsTakesUptoCard

/-- THE SECOND FORM's CARD OF 'lampblacklaw04.EarsDouble'. -/
def earsDoubleUptoCard : Claim7 := { stood := { row := earsDoubleUptoRow, standIns := [], harness := (true, "570bf1d066ae3836a4e8e0ded53d450373981f83115a8a7740fb68e1598663a5"), looks := false }, kinds := [], alts := [], laidByText := true, laidKinds := [.data, .data], laidTests := true, laidLooks := .later }
def EarsDoubleUptoCardSaid : Prop := Claim7.holds Tryd.pinned (.plain (OpenSpec.upto earsDoubleSpec)) earsDoubleUptoCard

/-- THE SECOND FORM's CARD OF 'lampblacklaw04.EarsWays'. -/
def earsWaysUptoCard : Claim7 := { stood := { row := earsWaysUptoRow, standIns := [], harness := (true, "570bf1d066ae3836a4e8e0ded53d450373981f83115a8a7740fb68e1598663a5"), looks := false }, kinds := [], alts := [], laidByText := true, laidKinds := [.data, .data], laidTests := true, laidLooks := .later }
def EarsWaysUptoCardSaid : Prop := Claim7.holds Tryd.pinned (.plain (OpenSpec.upto earsWaysSpec)) earsWaysUptoCard

/-- THE SECOND FORM's CARD OF 'lampblacklaw04.EarsMenger'. -/
def earsMengerUptoCard : Claim7 := { stood := { row := earsMengerUptoRow, standIns := [], harness := (true, "570bf1d066ae3836a4e8e0ded53d450373981f83115a8a7740fb68e1598663a5"), looks := false }, kinds := [], alts := [], laidByText := true, laidKinds := [.data, .data], laidTests := true, laidLooks := .later }
def EarsMengerUptoCardSaid : Prop := Claim7.holds Tryd.pinned (.plain (OpenSpec.upto earsMengerSpec)) earsMengerUptoCard
end Rows
end Go.Proofs.YtakhklelgcfgjaaDoor
