/-
  DERIVED. GIVEN WITH THE SEED: THE CARDS: each row of YtppmkgaobeccfaaGreatDoorRows.lean that lists a variable, with what it lists TIED to the program's text (the seventh form; the later family's looks); each row that meets fmt, with fmt's text TOLD by the authors' own Lean function (tested against real Go, not proved from fmt's source: count such statements apart). THE CARD IS WHAT COUNTS. Prove the row's statement (the work); the ties are given (YtppmkgaobeccfaaGreatDoorTie.lean); close each card by the builder's one call (the guide's Derived/Test/ToyasCard.lean, 'card_holds'). Laid BY PROGRAM, IN A SANDBOX (cutbox-door.mjs). By AI agents, Wed Nov 11 2026. No macro, syntax, notation, axiom, sorry.
-/
import Derived.Test.YtppmkgaobeccfaaGreatDoorRows
import GoSem.ClaimSeven
namespace Go.Proofs.YtppmkgaobeccfaaGreatDoor
namespace Rows

/-- THE TIED CARD OF 'logkeep2.DuplicatesChangeNothing'. -/
def duplicatesChangeNothingCard : Claim7 := { stood := { row := duplicatesChangeNothingRow, standIns := [], harness := (true, "3a1c9c62f1724ea60d8bdcce75efd67310eed07691e1f1e2ec5f2fae110f6771"), looks := true }, kinds := [], alts := [], laidByText := true, laidKinds := [.data, .data, .data, .sentinel, .sentinel], laidTests := true, laidLooks := .later }
def DuplicatesChangeNothingCardSaid : Prop := Claim7.holds Tryz.pinned (.plain (OpenSpec.ofChange duplicatesChangeNothingSpec)) duplicatesChangeNothingCard

/-- THE TIED CARD OF 'logkeep2.FixesAgree'. -/
def fixesAgreeCard : Claim7 := { stood := { row := fixesAgreeRow, standIns := [], harness := (true, "3a1c9c62f1724ea60d8bdcce75efd67310eed07691e1f1e2ec5f2fae110f6771"), looks := true }, kinds := [], alts := [], laidByText := true, laidKinds := [.data, .data, .data, .sentinel, .sentinel], laidTests := true, laidLooks := .later }
def FixesAgreeCardSaid : Prop := Claim7.holds Tryz.pinned (.plain (OpenSpec.ofChange fixesAgreeSpec)) fixesAgreeCard

/-- THE SECOND FORM's CARD OF 'logkeep2.DuplicatesChangeNothing'. -/
def duplicatesChangeNothingUptoCard : Claim7 := { stood := { row := duplicatesChangeNothingUptoRow, standIns := [], harness := (true, "3a1c9c62f1724ea60d8bdcce75efd67310eed07691e1f1e2ec5f2fae110f6771"), looks := true }, kinds := [], alts := [], laidByText := true, laidKinds := [.data, .data, .data, .sentinel, .sentinel], laidTests := true, laidLooks := .later }
def DuplicatesChangeNothingUptoCardSaid : Prop := Claim7.holds Tryz.pinned (.plain (OpenSpec.upto duplicatesChangeNothingSpec)) duplicatesChangeNothingUptoCard

/-- THE SECOND FORM's CARD OF 'logkeep2.FixesAgree'. -/
def fixesAgreeUptoCard : Claim7 := { stood := { row := fixesAgreeUptoRow, standIns := [], harness := (true, "3a1c9c62f1724ea60d8bdcce75efd67310eed07691e1f1e2ec5f2fae110f6771"), looks := true }, kinds := [], alts := [], laidByText := true, laidKinds := [.data, .data, .data, .sentinel, .sentinel], laidTests := true, laidLooks := .later }
def FixesAgreeUptoCardSaid : Prop := Claim7.holds Tryz.pinned (.plain (OpenSpec.upto fixesAgreeSpec)) fixesAgreeUptoCard
end Rows
end Go.Proofs.YtppmkgaobeccfaaGreatDoor
