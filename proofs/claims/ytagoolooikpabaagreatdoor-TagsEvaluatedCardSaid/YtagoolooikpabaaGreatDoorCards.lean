/-
  DERIVED. GIVEN WITH THE SEED: THE CARDS: each row of YtagoolooikpabaaGreatDoorRows.lean that lists a variable, with what it lists TIED to the program's text (the seventh form; the later family's looks); each row that meets fmt, with fmt's text TOLD by the authors' own Lean function (tested against real Go, not proved from fmt's source: count such statements apart). THE CARD IS WHAT COUNTS. Prove the row's statement (the work); the ties are given (YtagoolooikpabaaGreatDoorTie.lean); close each card by the builder's one call (the guide's Derived/Test/ToyasCard.lean, 'card_holds'). Laid BY PROGRAM, IN A SANDBOX (cutbox-door.mjs). By AI agents, Wed Nov 11 2026. No macro, syntax, notation, axiom, sorry.
-/
import Derived.Test.YtagoolooikpabaaGreatDoorRows
import GoSem.ClaimSeven
namespace Go.Proofs.YtagoolooikpabaaGreatDoor
namespace Rows

/-- THE TIED CARD OF 'loglaw2.TagsOrdered'. -/
def tagsOrderedCard : Claim7 := { stood := { row := tagsOrderedRow, standIns := [], harness := (true, "7e49985735ddc857b2447b93be5a48074e79dfa68f28e6263bcf14cffa399f39"), looks := true }, kinds := [], alts := [], laidByText := true, laidKinds := [.data, .data, .data, .data, .sentinel, .sentinel, .pinned], laidTests := true, laidLooks := .later }
def TagsOrderedCardSaid : Prop := Claim7.holds Tryz.pinned (.plain (OpenSpec.ofChange tagsOrderedSpec)) tagsOrderedCard

/-- THE TIED CARD OF 'loglaw2.TagsEvaluated'. -/
def tagsEvaluatedCard : Claim7 := { stood := { row := tagsEvaluatedRow, standIns := [], harness := (true, "7e49985735ddc857b2447b93be5a48074e79dfa68f28e6263bcf14cffa399f39"), looks := true }, kinds := [], alts := [], laidByText := true, laidKinds := [.data, .data, .data, .data, .sentinel, .sentinel, .pinned], laidTests := true, laidLooks := .later }
def TagsEvaluatedCardSaid : Prop := Claim7.holds Tryz.pinned (.plain (OpenSpec.ofChange tagsEvaluatedSpec)) tagsEvaluatedCard

/-- THE TIED CARD OF 'logkeep2.OrderIsPossible'. -/
def orderIsPossibleCard : Claim7 := { stood := { row := orderIsPossibleRow, standIns := [], harness := (true, "7e49985735ddc857b2447b93be5a48074e79dfa68f28e6263bcf14cffa399f39"), looks := true }, kinds := [], alts := [], laidByText := true, laidKinds := [.data, .data, .data, .data, .sentinel, .sentinel, .pinned], laidTests := true, laidLooks := .later }
def OrderIsPossibleCardSaid : Prop := Claim7.holds Tryz.pinned (.plain (OpenSpec.ofChange orderIsPossibleSpec)) orderIsPossibleCard

/-- THE SECOND FORM's CARD OF 'loglaw2.TagsOrdered'. -/
def tagsOrderedUptoCard : Claim7 := { stood := { row := tagsOrderedUptoRow, standIns := [], harness := (true, "7e49985735ddc857b2447b93be5a48074e79dfa68f28e6263bcf14cffa399f39"), looks := true }, kinds := [], alts := [], laidByText := true, laidKinds := [.data, .data, .data, .data, .sentinel, .sentinel, .pinned], laidTests := true, laidLooks := .later }
def TagsOrderedUptoCardSaid : Prop := Claim7.holds Tryz.pinned (.plain (OpenSpec.upto tagsOrderedSpec)) tagsOrderedUptoCard

/-- THE SECOND FORM's CARD OF 'loglaw2.TagsEvaluated'. -/
def tagsEvaluatedUptoCard : Claim7 := { stood := { row := tagsEvaluatedUptoRow, standIns := [], harness := (true, "7e49985735ddc857b2447b93be5a48074e79dfa68f28e6263bcf14cffa399f39"), looks := true }, kinds := [], alts := [], laidByText := true, laidKinds := [.data, .data, .data, .data, .sentinel, .sentinel, .pinned], laidTests := true, laidLooks := .later }
def TagsEvaluatedUptoCardSaid : Prop := Claim7.holds Tryz.pinned (.plain (OpenSpec.upto tagsEvaluatedSpec)) tagsEvaluatedUptoCard

/-- THE SECOND FORM's CARD OF 'logkeep2.OrderIsPossible'. -/
def orderIsPossibleUptoCard : Claim7 := { stood := { row := orderIsPossibleUptoRow, standIns := [], harness := (true, "7e49985735ddc857b2447b93be5a48074e79dfa68f28e6263bcf14cffa399f39"), looks := true }, kinds := [], alts := [], laidByText := true, laidKinds := [.data, .data, .data, .data, .sentinel, .sentinel, .pinned], laidTests := true, laidLooks := .later }
def OrderIsPossibleUptoCardSaid : Prop := Claim7.holds Tryz.pinned (.plain (OpenSpec.upto orderIsPossibleSpec)) orderIsPossibleUptoCard
end Rows
end Go.Proofs.YtagoolooikpabaaGreatDoor
