/-
  DERIVED. GIVEN WITH THE SEED: THE CARDS: each row of YtgcjenfdndhhpaaGreatDoorRows.lean that lists a variable, with what it lists TIED to the program's text (the seventh form; the later family's looks); each row that meets fmt, with fmt's text TOLD by the authors' own Lean function (tested against real Go, not proved from fmt's source: count such statements apart). THE CARD IS WHAT COUNTS. Prove the row's statement (the work); the ties are given (YtgcjenfdndhhpaaGreatDoorTie.lean); close each card by the builder's one call (the guide's Derived/Test/ToyasCard.lean, 'card_holds'). Laid BY PROGRAM, IN A SANDBOX (cutbox-door.mjs). By AI agents, Wed Nov 11 2026. No macro, syntax, notation, axiom, sorry.
-/
import Derived.Test.YtgcjenfdndhhpaaGreatDoorRows
import GoSem.ClaimSeven
namespace Go.Proofs.YtgcjenfdndhhpaaGreatDoor
namespace Rows

/-- THE TIED CARD OF 'logkeep2.FilesKeepSamples'. -/
def filesKeepSamplesCard : Claim7 := { stood := { row := filesKeepSamplesRow, standIns := [], harness := (true, "c58c6b3fcd949f6a542fd5f2491bc02ed8509d4052c8c1137827a7b9c85af207"), looks := true }, kinds := [], alts := [], laidByText := true, laidKinds := [.data, .data, .data, .sentinel, .sentinel], laidTests := true, laidLooks := .later }
def FilesKeepSamplesCardSaid : Prop := Claim7.holds Tryz.pinned (.plain (OpenSpec.ofChange filesKeepSamplesSpec)) filesKeepSamplesCard

/-- THE TIED CARD OF 'logkeep2.CompactChangesNothing'. -/
def compactChangesNothingCard : Claim7 := { stood := { row := compactChangesNothingRow, standIns := [], harness := (true, "c58c6b3fcd949f6a542fd5f2491bc02ed8509d4052c8c1137827a7b9c85af207"), looks := true }, kinds := [], alts := [], laidByText := true, laidKinds := [.data, .data, .data, .sentinel, .sentinel], laidTests := true, laidLooks := .later }
def CompactChangesNothingCardSaid : Prop := Claim7.holds Tryz.pinned (.plain (OpenSpec.ofChange compactChangesNothingSpec)) compactChangesNothingCard

/-- THE TIED CARD OF 'logkeep2.FixesAgree'. -/
def fixesAgreeCard : Claim7 := { stood := { row := fixesAgreeRow, standIns := [], harness := (true, "c58c6b3fcd949f6a542fd5f2491bc02ed8509d4052c8c1137827a7b9c85af207"), looks := true }, kinds := [], alts := [], laidByText := true, laidKinds := [.data, .data, .data, .sentinel, .sentinel], laidTests := true, laidLooks := .later }
def FixesAgreeCardSaid : Prop := Claim7.holds Tryz.pinned (.plain (OpenSpec.ofChange fixesAgreeSpec)) fixesAgreeCard

/-- THE SECOND FORM's CARD OF 'logkeep2.FilesKeepSamples'. -/
def filesKeepSamplesUptoCard : Claim7 := { stood := { row := filesKeepSamplesUptoRow, standIns := [], harness := (true, "c58c6b3fcd949f6a542fd5f2491bc02ed8509d4052c8c1137827a7b9c85af207"), looks := true }, kinds := [], alts := [], laidByText := true, laidKinds := [.data, .data, .data, .sentinel, .sentinel], laidTests := true, laidLooks := .later }
def FilesKeepSamplesUptoCardSaid : Prop := Claim7.holds Tryz.pinned (.plain (OpenSpec.upto filesKeepSamplesSpec)) filesKeepSamplesUptoCard

/-- THE SECOND FORM's CARD OF 'logkeep2.CompactChangesNothing'. -/
def compactChangesNothingUptoCard : Claim7 := { stood := { row := compactChangesNothingUptoRow, standIns := [], harness := (true, "c58c6b3fcd949f6a542fd5f2491bc02ed8509d4052c8c1137827a7b9c85af207"), looks := true }, kinds := [], alts := [], laidByText := true, laidKinds := [.data, .data, .data, .sentinel, .sentinel], laidTests := true, laidLooks := .later }
def CompactChangesNothingUptoCardSaid : Prop := Claim7.holds Tryz.pinned (.plain (OpenSpec.upto compactChangesNothingSpec)) compactChangesNothingUptoCard

/-- THE SECOND FORM's CARD OF 'logkeep2.FixesAgree'. -/
def fixesAgreeUptoCard : Claim7 := { stood := { row := fixesAgreeUptoRow, standIns := [], harness := (true, "c58c6b3fcd949f6a542fd5f2491bc02ed8509d4052c8c1137827a7b9c85af207"), looks := true }, kinds := [], alts := [], laidByText := true, laidKinds := [.data, .data, .data, .sentinel, .sentinel], laidTests := true, laidLooks := .later }
def FixesAgreeUptoCardSaid : Prop := Claim7.holds Tryz.pinned (.plain (OpenSpec.upto fixesAgreeSpec)) fixesAgreeUptoCard
end Rows
end Go.Proofs.YtgcjenfdndhhpaaGreatDoor
