/-
  DERIVED. GIVEN WITH THE SEED: THE CARDS: each row of YtlnfiflbpmicgaaGreatDoorRows.lean that lists a variable, with what it lists TIED to the program's text (the seventh form; the later family's looks); each row that meets fmt, with fmt's text TOLD by the authors' own Lean function (tested against real Go, not proved from fmt's source: count such statements apart). THE CARD IS WHAT COUNTS. Prove the row's statement (the work); the ties are given (YtlnfiflbpmicgaaGreatDoorTie.lean); close each card by the builder's one call (the guide's Derived/Test/ToyasCard.lean, 'card_holds'). Laid BY PROGRAM, IN A SANDBOX (cutbox-door.mjs). By AI agents, Wed Nov 11 2026. No macro, syntax, notation, axiom, sorry.
-/
import Derived.Test.YtlnfiflbpmicgaaGreatDoorRows
import GoSem.ClaimSeven
namespace Go.Proofs.YtlnfiflbpmicgaaGreatDoor
namespace Rows

/-- THE TIED CARD OF 'loglaw2.ExpressionsEvaluated'. -/
def expressionsEvaluatedCard : Claim7 := { stood := { row := expressionsEvaluatedRow, standIns := [], harness := (true, "f8255d34e717c89f440a5fabaf813176ef2b0e77ca71674e4bd742f1226bb0c1"), looks := true }, kinds := [], alts := [], laidByText := true, laidKinds := [.data, .data, .data, .sentinel, .sentinel], laidTests := true, laidLooks := .later }
def ExpressionsEvaluatedCardSaid : Prop := Claim7.holds Tryz.pinned (.plain (OpenSpec.ofChange expressionsEvaluatedSpec)) expressionsEvaluatedCard

/-- THE TIED CARD OF 'logkeep2.GoodNeedsGood'. -/
def goodNeedsGoodCard : Claim7 := { stood := { row := goodNeedsGoodRow, standIns := [], harness := (true, "f8255d34e717c89f440a5fabaf813176ef2b0e77ca71674e4bd742f1226bb0c1"), looks := true }, kinds := [], alts := [], laidByText := true, laidKinds := [.data, .data, .data, .sentinel, .sentinel], laidTests := true, laidLooks := .later }
def GoodNeedsGoodCardSaid : Prop := Claim7.holds Tryz.pinned (.plain (OpenSpec.ofChange goodNeedsGoodSpec)) goodNeedsGoodCard

/-- THE TIED CARD OF 'loglaw2.TagsOrdered'. -/
def tagsOrderedCard : Claim7 := { stood := { row := tagsOrderedRow, standIns := [], harness := (true, "f8255d34e717c89f440a5fabaf813176ef2b0e77ca71674e4bd742f1226bb0c1"), looks := true }, kinds := [], alts := [], laidByText := true, laidKinds := [.data, .data, .data, .data, .sentinel, .sentinel, .pinned], laidTests := true, laidLooks := .later }
def TagsOrderedCardSaid : Prop := Claim7.holds Tryz.pinned (.plain (OpenSpec.ofChange tagsOrderedSpec)) tagsOrderedCard

/-- THE TIED CARD OF 'loglaw2.TagsEvaluated'. -/
def tagsEvaluatedCard : Claim7 := { stood := { row := tagsEvaluatedRow, standIns := [], harness := (true, "f8255d34e717c89f440a5fabaf813176ef2b0e77ca71674e4bd742f1226bb0c1"), looks := true }, kinds := [], alts := [], laidByText := true, laidKinds := [.data, .data, .data, .data, .sentinel, .sentinel, .pinned], laidTests := true, laidLooks := .later }
def TagsEvaluatedCardSaid : Prop := Claim7.holds Tryz.pinned (.plain (OpenSpec.ofChange tagsEvaluatedSpec)) tagsEvaluatedCard

/-- THE TIED CARD OF 'logkeep2.OrderIsPossible'. -/
def orderIsPossibleCard : Claim7 := { stood := { row := orderIsPossibleRow, standIns := [], harness := (true, "f8255d34e717c89f440a5fabaf813176ef2b0e77ca71674e4bd742f1226bb0c1"), looks := true }, kinds := [], alts := [], laidByText := true, laidKinds := [.data, .data, .data, .data, .sentinel, .sentinel, .pinned], laidTests := true, laidLooks := .later }
def OrderIsPossibleCardSaid : Prop := Claim7.holds Tryz.pinned (.plain (OpenSpec.ofChange orderIsPossibleSpec)) orderIsPossibleCard

/-- THE SECOND FORM's CARD OF 'loglaw2.ExpressionsEvaluated'. -/
def expressionsEvaluatedUptoCard : Claim7 := { stood := { row := expressionsEvaluatedUptoRow, standIns := [], harness := (true, "f8255d34e717c89f440a5fabaf813176ef2b0e77ca71674e4bd742f1226bb0c1"), looks := true }, kinds := [], alts := [], laidByText := true, laidKinds := [.data, .data, .data, .sentinel, .sentinel], laidTests := true, laidLooks := .later }
def ExpressionsEvaluatedUptoCardSaid : Prop := Claim7.holds Tryz.pinned (.plain (OpenSpec.upto expressionsEvaluatedSpec)) expressionsEvaluatedUptoCard

/-- THE SECOND FORM's CARD OF 'logkeep2.GoodNeedsGood'. -/
def goodNeedsGoodUptoCard : Claim7 := { stood := { row := goodNeedsGoodUptoRow, standIns := [], harness := (true, "f8255d34e717c89f440a5fabaf813176ef2b0e77ca71674e4bd742f1226bb0c1"), looks := true }, kinds := [], alts := [], laidByText := true, laidKinds := [.data, .data, .data, .sentinel, .sentinel], laidTests := true, laidLooks := .later }
def GoodNeedsGoodUptoCardSaid : Prop := Claim7.holds Tryz.pinned (.plain (OpenSpec.upto goodNeedsGoodSpec)) goodNeedsGoodUptoCard

/-- THE SECOND FORM's CARD OF 'loglaw2.TagsOrdered'. -/
def tagsOrderedUptoCard : Claim7 := { stood := { row := tagsOrderedUptoRow, standIns := [], harness := (true, "f8255d34e717c89f440a5fabaf813176ef2b0e77ca71674e4bd742f1226bb0c1"), looks := true }, kinds := [], alts := [], laidByText := true, laidKinds := [.data, .data, .data, .data, .sentinel, .sentinel, .pinned], laidTests := true, laidLooks := .later }
def TagsOrderedUptoCardSaid : Prop := Claim7.holds Tryz.pinned (.plain (OpenSpec.upto tagsOrderedSpec)) tagsOrderedUptoCard

/-- THE SECOND FORM's CARD OF 'loglaw2.TagsEvaluated'. -/
def tagsEvaluatedUptoCard : Claim7 := { stood := { row := tagsEvaluatedUptoRow, standIns := [], harness := (true, "f8255d34e717c89f440a5fabaf813176ef2b0e77ca71674e4bd742f1226bb0c1"), looks := true }, kinds := [], alts := [], laidByText := true, laidKinds := [.data, .data, .data, .data, .sentinel, .sentinel, .pinned], laidTests := true, laidLooks := .later }
def TagsEvaluatedUptoCardSaid : Prop := Claim7.holds Tryz.pinned (.plain (OpenSpec.upto tagsEvaluatedSpec)) tagsEvaluatedUptoCard

/-- THE SECOND FORM's CARD OF 'logkeep2.OrderIsPossible'. -/
def orderIsPossibleUptoCard : Claim7 := { stood := { row := orderIsPossibleUptoRow, standIns := [], harness := (true, "f8255d34e717c89f440a5fabaf813176ef2b0e77ca71674e4bd742f1226bb0c1"), looks := true }, kinds := [], alts := [], laidByText := true, laidKinds := [.data, .data, .data, .data, .sentinel, .sentinel, .pinned], laidTests := true, laidLooks := .later }
def OrderIsPossibleUptoCardSaid : Prop := Claim7.holds Tryz.pinned (.plain (OpenSpec.upto orderIsPossibleSpec)) orderIsPossibleUptoCard
end Rows
end Go.Proofs.YtlnfiflbpmicgaaGreatDoor
