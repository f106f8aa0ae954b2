/-
  DERIVED. GIVEN WITH THE SEED: THE CARDS: each row of YtkmkkjlfnobciaaGreatDoorRows.lean that lists a variable, with what it lists TIED to the program's text (the seventh form; the later family's looks); each row that meets fmt, with fmt's text TOLD by the authors' own Lean function (tested against real Go, not proved from fmt's source: count such statements apart). THE CARD IS WHAT COUNTS. Prove the row's statement (the work); the ties are given (YtkmkkjlfnobciaaGreatDoorTie.lean); close each card by the builder's one call (the guide's Derived/Test/ToyasCard.lean, 'card_holds'). Laid BY PROGRAM, IN A SANDBOX (cutbox-door.mjs). By AI agents, Wed Nov 11 2026. No macro, syntax, notation, axiom, sorry.
-/
import Derived.Test.YtkmkkjlfnobciaaGreatDoorRows
import GoSem.ClaimSeven
namespace Go.Proofs.YtkmkkjlfnobciaaGreatDoor
namespace Rows

/-- THE TIED CARD OF 'loglaw2.BinTexts'. -/
def binTextsCard : Claim7 := { stood := { row := binTextsRow, standIns := [], harness := (true, "3e09f09693697742cbeba05c99c9246390d4d3335bd151ddea5feadd6475000e"), looks := true }, kinds := [], alts := [], laidByText := true, laidKinds := [.data, .data, .data, .data, .sentinel, .sentinel, .pinned], laidTests := true, laidLooks := .later }
def BinTextsCardSaid : Prop := Claim7.holds Tryz.pinned (.plain (OpenSpec.ofChange binTextsSpec)) binTextsCard

/-- THE TIED CARD OF 'logtop.TopRollupsAnswer'. -/
def topRollupsAnswerCard : Claim7 := { stood := { row := topRollupsAnswerRow, standIns := [], harness := (true, "3e09f09693697742cbeba05c99c9246390d4d3335bd151ddea5feadd6475000e"), looks := true }, kinds := [], alts := [], laidByText := true, laidKinds := [.data, .data, .data, .sentinel, .sentinel], laidTests := true, laidLooks := .later }
def TopRollupsAnswerCardSaid : Prop := Claim7.holds Tryz.pinned (.plain (OpenSpec.ofChange topRollupsAnswerSpec)) topRollupsAnswerCard

/-- THE TIED CARD OF 'logkeep2.FitIsEnough'. -/
def fitIsEnoughCard : Claim7 := { stood := { row := fitIsEnoughRow, standIns := [], harness := (true, "3e09f09693697742cbeba05c99c9246390d4d3335bd151ddea5feadd6475000e"), looks := true }, kinds := [], alts := [], laidByText := true, laidKinds := [.data, .data, .data, .sentinel, .sentinel], laidTests := true, laidLooks := .later }
def FitIsEnoughCardSaid : Prop := Claim7.holds Tryz.pinned (.plain (OpenSpec.ofChange fitIsEnoughSpec)) fitIsEnoughCard

/-- THE TIED CARD OF 'logkeep2.KeptIsLostOnce'. -/
def keptIsLostOnceCard : Claim7 := { stood := { row := keptIsLostOnceRow, standIns := [], harness := (true, "3e09f09693697742cbeba05c99c9246390d4d3335bd151ddea5feadd6475000e"), looks := true }, kinds := [], alts := [], laidByText := true, laidKinds := [.data, .data, .data, .sentinel, .sentinel], laidTests := true, laidLooks := .later }
def KeptIsLostOnceCardSaid : Prop := Claim7.holds Tryz.pinned (.plain (OpenSpec.ofChange keptIsLostOnceSpec)) keptIsLostOnceCard

/-- THE TIED CARD OF 'logkeep2.PurgedIsKept'. -/
def purgedIsKeptCard : Claim7 := { stood := { row := purgedIsKeptRow, standIns := [], harness := (true, "3e09f09693697742cbeba05c99c9246390d4d3335bd151ddea5feadd6475000e"), looks := true }, kinds := [], alts := [], laidByText := true, laidKinds := [.data, .data, .data, .sentinel, .sentinel], laidTests := true, laidLooks := .later }
def PurgedIsKeptCardSaid : Prop := Claim7.holds Tryz.pinned (.plain (OpenSpec.ofChange purgedIsKeptSpec)) purgedIsKeptCard

/-- THE TIED CARD OF 'logkeep2.BinsAgree'. -/
def binsAgreeCard : Claim7 := { stood := { row := binsAgreeRow, standIns := [], harness := (true, "3e09f09693697742cbeba05c99c9246390d4d3335bd151ddea5feadd6475000e"), looks := true }, kinds := [], alts := [], laidByText := true, laidKinds := [.data, .data, .data, .sentinel, .sentinel], laidTests := true, laidLooks := .later }
def BinsAgreeCardSaid : Prop := Claim7.holds Tryz.pinned (.plain (OpenSpec.ofChange binsAgreeSpec)) binsAgreeCard

/-- THE TIED CARD OF 'logkeep2.RetainsStay'. -/
def retainsStayCard : Claim7 := { stood := { row := retainsStayRow, standIns := [], harness := (true, "3e09f09693697742cbeba05c99c9246390d4d3335bd151ddea5feadd6475000e"), looks := true }, kinds := [], alts := [], laidByText := true, laidKinds := [.data, .data, .data, .sentinel, .sentinel], laidTests := true, laidLooks := .later }
def RetainsStayCardSaid : Prop := Claim7.holds Tryz.pinned (.plain (OpenSpec.ofChange retainsStaySpec)) retainsStayCard

/-- THE SECOND FORM's CARD OF 'loglaw2.BinTexts'. -/
def binTextsUptoCard : Claim7 := { stood := { row := binTextsUptoRow, standIns := [], harness := (true, "3e09f09693697742cbeba05c99c9246390d4d3335bd151ddea5feadd6475000e"), looks := true }, kinds := [], alts := [], laidByText := true, laidKinds := [.data, .data, .data, .data, .sentinel, .sentinel, .pinned], laidTests := true, laidLooks := .later }
def BinTextsUptoCardSaid : Prop := Claim7.holds Tryz.pinned (.plain (OpenSpec.upto binTextsSpec)) binTextsUptoCard

/-- THE SECOND FORM's CARD OF 'logtop.TopRollupsAnswer'. -/
def topRollupsAnswerUptoCard : Claim7 := { stood := { row := topRollupsAnswerUptoRow, standIns := [], harness := (true, "3e09f09693697742cbeba05c99c9246390d4d3335bd151ddea5feadd6475000e"), looks := true }, kinds := [], alts := [], laidByText := true, laidKinds := [.data, .data, .data, .sentinel, .sentinel], laidTests := true, laidLooks := .later }
def TopRollupsAnswerUptoCardSaid : Prop := Claim7.holds Tryz.pinned (.plain (OpenSpec.upto topRollupsAnswerSpec)) topRollupsAnswerUptoCard

/-- THE SECOND FORM's CARD OF 'logkeep2.FitIsEnough'. -/
def fitIsEnoughUptoCard : Claim7 := { stood := { row := fitIsEnoughUptoRow, standIns := [], harness := (true, "3e09f09693697742cbeba05c99c9246390d4d3335bd151ddea5feadd6475000e"), looks := true }, kinds := [], alts := [], laidByText := true, laidKinds := [.data, .data, .data, .sentinel, .sentinel], laidTests := true, laidLooks := .later }
def FitIsEnoughUptoCardSaid : Prop := Claim7.holds Tryz.pinned (.plain (OpenSpec.upto fitIsEnoughSpec)) fitIsEnoughUptoCard

/-- THE SECOND FORM's CARD OF 'logkeep2.KeptIsLostOnce'. -/
def keptIsLostOnceUptoCard : Claim7 := { stood := { row := keptIsLostOnceUptoRow, standIns := [], harness := (true, "3e09f09693697742cbeba05c99c9246390d4d3335bd151ddea5feadd6475000e"), looks := true }, kinds := [], alts := [], laidByText := true, laidKinds := [.data, .data, .data, .sentinel, .sentinel], laidTests := true, laidLooks := .later }
def KeptIsLostOnceUptoCardSaid : Prop := Claim7.holds Tryz.pinned (.plain (OpenSpec.upto keptIsLostOnceSpec)) keptIsLostOnceUptoCard

/-- THE SECOND FORM's CARD OF 'logkeep2.PurgedIsKept'. -/
def purgedIsKeptUptoCard : Claim7 := { stood := { row := purgedIsKeptUptoRow, standIns := [], harness := (true, "3e09f09693697742cbeba05c99c9246390d4d3335bd151ddea5feadd6475000e"), looks := true }, kinds := [], alts := [], laidByText := true, laidKinds := [.data, .data, .data, .sentinel, .sentinel], laidTests := true, laidLooks := .later }
def PurgedIsKeptUptoCardSaid : Prop := Claim7.holds Tryz.pinned (.plain (OpenSpec.upto purgedIsKeptSpec)) purgedIsKeptUptoCard

/-- THE SECOND FORM's CARD OF 'logkeep2.BinsAgree'. -/
def binsAgreeUptoCard : Claim7 := { stood := { row := binsAgreeUptoRow, standIns := [], harness := (true, "3e09f09693697742cbeba05c99c9246390d4d3335bd151ddea5feadd6475000e"), looks := true }, kinds := [], alts := [], laidByText := true, laidKinds := [.data, .data, .data, .sentinel, .sentinel], laidTests := true, laidLooks := .later }
def BinsAgreeUptoCardSaid : Prop := Claim7.holds Tryz.pinned (.plain (OpenSpec.upto binsAgreeSpec)) binsAgreeUptoCard

/-- THE SECOND FORM's CARD OF 'logkeep2.RetainsStay'. -/
def retainsStayUptoCard : Claim7 := { stood := { row := retainsStayUptoRow, standIns := [], harness := (true, "3e09f09693697742cbeba05c99c9246390d4d3335bd151ddea5feadd6475000e"), looks := true }, kinds := [], alts := [], laidByText := true, laidKinds := [.data, .data, .data, .sentinel, .sentinel], laidTests := true, laidLooks := .later }
def RetainsStayUptoCardSaid : Prop := Claim7.holds Tryz.pinned (.plain (OpenSpec.upto retainsStaySpec)) retainsStayUptoCard
end Rows
end Go.Proofs.YtkmkkjlfnobciaaGreatDoor
