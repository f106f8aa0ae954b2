/-
  DERIVED. GIVEN WITH THE SEED: THE CARDS: each row of YtflklkijfkmeiaaGreatDoorRows.lean that lists a variable, with what it lists TIED to the program's text (the seventh form; the later family's looks); each row that meets fmt, with fmt's text TOLD by the authors' own Lean function (tested against real Go, not proved from fmt's source: count such statements apart). THE CARD IS WHAT COUNTS. Prove the row's statement (the work); the ties are given (YtflklkijfkmeiaaGreatDoorTie.lean); close each card by the builder's one call (the guide's Derived/Test/ToyasCard.lean, 'card_holds'). Laid BY PROGRAM, IN A SANDBOX (cutbox-door.mjs). By AI agents, Wed Nov 11 2026. No macro, syntax, notation, axiom, sorry.
-/
import Derived.Test.YtflklkijfkmeiaaGreatDoorRows
import GoSem.ClaimSeven
namespace Go.Proofs.YtflklkijfkmeiaaGreatDoor
namespace Rows

/-- THE TIED CARD OF 'loglaw2.ExpressionsEvaluated'. -/
def expressionsEvaluatedCard : Claim7 := { stood := { row := expressionsEvaluatedRow, standIns := [], harness := (true, "578490be29d3a71f6da2ee715423d6d1b37c406ca2b0d9899a18ac0120db7c3d"), looks := true }, kinds := [], alts := [], laidByText := true, laidKinds := [.data, .data, .data, .sentinel, .sentinel], laidTests := true, laidLooks := .later }
def ExpressionsEvaluatedCardSaid : Prop := Claim7.holds Tryz.pinned (.plain (OpenSpec.ofChange expressionsEvaluatedSpec)) expressionsEvaluatedCard

/-- THE TIED CARD OF 'loglaw2.ArrivalTexts'. -/
def arrivalTextsCard : Claim7 := { stood := { row := arrivalTextsRow, standIns := [], harness := (true, "578490be29d3a71f6da2ee715423d6d1b37c406ca2b0d9899a18ac0120db7c3d"), looks := true }, kinds := [], alts := [], laidByText := true, laidKinds := [.data, .data, .data, .data, .sentinel, .sentinel, .pinned], laidTests := true, laidLooks := .later }
def ArrivalTextsCardSaid : Prop := Claim7.holds Tryz.pinned (.plain (OpenSpec.ofChange arrivalTextsSpec)) arrivalTextsCard

/-- THE TIED CARD OF 'logkeep2.GoodNeedsGood'. -/
def goodNeedsGoodCard : Claim7 := { stood := { row := goodNeedsGoodRow, standIns := [], harness := (true, "578490be29d3a71f6da2ee715423d6d1b37c406ca2b0d9899a18ac0120db7c3d"), looks := true }, kinds := [], alts := [], laidByText := true, laidKinds := [.data, .data, .data, .sentinel, .sentinel], laidTests := true, laidLooks := .later }
def GoodNeedsGoodCardSaid : Prop := Claim7.holds Tryz.pinned (.plain (OpenSpec.ofChange goodNeedsGoodSpec)) goodNeedsGoodCard

/-- THE TIED CARD OF 'logkeep2.FormatsAreEqual'. -/
def formatsAreEqualCard : Claim7 := { stood := { row := formatsAreEqualRow, standIns := [], harness := (true, "578490be29d3a71f6da2ee715423d6d1b37c406ca2b0d9899a18ac0120db7c3d"), looks := true }, kinds := [], alts := [], laidByText := true, laidKinds := [.data, .data, .data, .sentinel, .sentinel], laidTests := true, laidLooks := .later }
def FormatsAreEqualCardSaid : Prop := Claim7.holds Tryz.pinned (.plain (OpenSpec.ofChange formatsAreEqualSpec)) formatsAreEqualCard

/-- THE SECOND FORM's CARD OF 'loglaw2.ExpressionsEvaluated'. -/
def expressionsEvaluatedUptoCard : Claim7 := { stood := { row := expressionsEvaluatedUptoRow, standIns := [], harness := (true, "578490be29d3a71f6da2ee715423d6d1b37c406ca2b0d9899a18ac0120db7c3d"), looks := true }, kinds := [], alts := [], laidByText := true, laidKinds := [.data, .data, .data, .sentinel, .sentinel], laidTests := true, laidLooks := .later }
def ExpressionsEvaluatedUptoCardSaid : Prop := Claim7.holds Tryz.pinned (.plain (OpenSpec.upto expressionsEvaluatedSpec)) expressionsEvaluatedUptoCard

/-- THE SECOND FORM's CARD OF 'loglaw2.ArrivalTexts'. -/
def arrivalTextsUptoCard : Claim7 := { stood := { row := arrivalTextsUptoRow, standIns := [], harness := (true, "578490be29d3a71f6da2ee715423d6d1b37c406ca2b0d9899a18ac0120db7c3d"), looks := true }, kinds := [], alts := [], laidByText := true, laidKinds := [.data, .data, .data, .data, .sentinel, .sentinel, .pinned], laidTests := true, laidLooks := .later }
def ArrivalTextsUptoCardSaid : Prop := Claim7.holds Tryz.pinned (.plain (OpenSpec.upto arrivalTextsSpec)) arrivalTextsUptoCard

/-- THE SECOND FORM's CARD OF 'logkeep2.GoodNeedsGood'. -/
def goodNeedsGoodUptoCard : Claim7 := { stood := { row := goodNeedsGoodUptoRow, standIns := [], harness := (true, "578490be29d3a71f6da2ee715423d6d1b37c406ca2b0d9899a18ac0120db7c3d"), looks := true }, kinds := [], alts := [], laidByText := true, laidKinds := [.data, .data, .data, .sentinel, .sentinel], laidTests := true, laidLooks := .later }
def GoodNeedsGoodUptoCardSaid : Prop := Claim7.holds Tryz.pinned (.plain (OpenSpec.upto goodNeedsGoodSpec)) goodNeedsGoodUptoCard

/-- THE SECOND FORM's CARD OF 'logkeep2.FormatsAreEqual'. -/
def formatsAreEqualUptoCard : Claim7 := { stood := { row := formatsAreEqualUptoRow, standIns := [], harness := (true, "578490be29d3a71f6da2ee715423d6d1b37c406ca2b0d9899a18ac0120db7c3d"), looks := true }, kinds := [], alts := [], laidByText := true, laidKinds := [.data, .data, .data, .sentinel, .sentinel], laidTests := true, laidLooks := .later }
def FormatsAreEqualUptoCardSaid : Prop := Claim7.holds Tryz.pinned (.plain (OpenSpec.upto formatsAreEqualSpec)) formatsAreEqualUptoCard
end Rows
end Go.Proofs.YtflklkijfkmeiaaGreatDoor
