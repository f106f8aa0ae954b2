/-
  DERIVED. GIVEN WITH THE SEED: THE CARDS: each row of YthbdhennkmpgbaaGreatDoorRows.lean that lists a variable, with what it lists TIED to the program's text (the seventh form; the later family's looks); each row that meets fmt, with fmt's text TOLD by the authors' own Lean function (tested against real Go, not proved from fmt's source: count such statements apart). THE CARD IS WHAT COUNTS. Prove the row's statement (the work); the ties are given (YthbdhennkmpgbaaGreatDoorTie.lean); close each card by the builder's one call (the guide's Derived/Test/ToyasCard.lean, 'card_holds'). Laid BY PROGRAM, IN A SANDBOX (cutbox-door.mjs). By AI agents, Wed Nov 11 2026. No macro, syntax, notation, axiom, sorry.
-/
import Derived.Test.YthbdhennkmpgbaaGreatDoorRows
import GoSem.ClaimSeven
namespace Go.Proofs.YthbdhennkmpgbaaGreatDoor
namespace Rows

/-- THE TIED CARD OF 'logtop.TopRollupsAnswer'. -/
def topRollupsAnswerCard : Claim7 := { stood := { row := topRollupsAnswerRow, standIns := [], harness := (true, "d967bc089f94317505274d33de2dbdeec0839b20575d5f9f2702585a2242b266"), looks := true }, kinds := [], alts := [], laidByText := true, laidKinds := [.data, .data, .data, .sentinel, .sentinel], laidTests := true, laidLooks := .later }
def TopRollupsAnswerCardSaid : Prop := Claim7.holds Tryz.pinned (.plain (OpenSpec.ofChange topRollupsAnswerSpec)) topRollupsAnswerCard

/-- THE SECOND FORM's CARD OF 'logtop.TopRollupsAnswer'. -/
def topRollupsAnswerUptoCard : Claim7 := { stood := { row := topRollupsAnswerUptoRow, standIns := [], harness := (true, "d967bc089f94317505274d33de2dbdeec0839b20575d5f9f2702585a2242b266"), looks := true }, kinds := [], alts := [], laidByText := true, laidKinds := [.data, .data, .data, .sentinel, .sentinel], laidTests := true, laidLooks := .later }
def TopRollupsAnswerUptoCardSaid : Prop := Claim7.holds Tryz.pinned (.plain (OpenSpec.upto topRollupsAnswerSpec)) topRollupsAnswerUptoCard
end Rows
end Go.Proofs.YthbdhennkmpgbaaGreatDoor
