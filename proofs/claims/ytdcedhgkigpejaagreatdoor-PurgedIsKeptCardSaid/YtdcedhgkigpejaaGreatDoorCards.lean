/-
  DERIVED. GIVEN WITH THE SEED: THE CARDS: each row of YtdcedhgkigpejaaGreatDoorRows.lean that lists a variable, with what it lists TIED to the program's text (the seventh form; the later family's looks); each row that meets fmt, with fmt's text TOLD by the authors' own Lean function (tested against real Go, not proved from fmt's source: count such statements apart). THE CARD IS WHAT COUNTS. Prove the row's statement (the work); the ties are given (YtdcedhgkigpejaaGreatDoorTie.lean); close each card by the builder's one call (the guide's Derived/Test/ToyasCard.lean, 'card_holds'). Laid BY PROGRAM, IN A SANDBOX (cutbox-door.mjs). By AI agents, Wed Nov 11 2026. No macro, syntax, notation, axiom, sorry.
-/
import Derived.Test.YtdcedhgkigpejaaGreatDoorRows
import GoSem.ClaimSeven
namespace Go.Proofs.YtdcedhgkigpejaaGreatDoor
namespace Rows

/-- THE TIED CARD OF 'loglaw2.BinTexts'. -/
def binTextsCard : Claim7 := { stood := { row := binTextsRow, standIns := [], harness := (true, "02d9aceda5f2e18284b45b95bd86ecaa724a87638b4e077bf702dd8f1412853c"), looks := true }, kinds := [], alts := [], laidByText := true, laidKinds := [.data, .data, .data, .data, .sentinel, .sentinel, .pinned], laidTests := true, laidLooks := .later }
def BinTextsCardSaid : Prop := Claim7.holds Tryz.pinned (.plain (OpenSpec.ofChange binTextsSpec)) binTextsCard

/-- THE TIED CARD OF 'logkeep2.ClocksRise'. -/
def clocksRiseCard : Claim7 := { stood := { row := clocksRiseRow, standIns := [], harness := (true, "02d9aceda5f2e18284b45b95bd86ecaa724a87638b4e077bf702dd8f1412853c"), looks := true }, kinds := [], alts := [], laidByText := true, laidKinds := [.data, .data, .data, .sentinel, .sentinel], laidTests := true, laidLooks := .later }
def ClocksRiseCardSaid : Prop := Claim7.holds Tryz.pinned (.plain (OpenSpec.ofChange clocksRiseSpec)) clocksRiseCard

/-- THE TIED CARD OF 'logkeep2.LimitsAreKept'. -/
def limitsAreKeptCard : Claim7 := { stood := { row := limitsAreKeptRow, standIns := [], harness := (true, "02d9aceda5f2e18284b45b95bd86ecaa724a87638b4e077bf702dd8f1412853c"), looks := true }, kinds := [], alts := [], laidByText := true, laidKinds := [.data, .data, .data, .sentinel, .sentinel], laidTests := true, laidLooks := .later }
def LimitsAreKeptCardSaid : Prop := Claim7.holds Tryz.pinned (.plain (OpenSpec.ofChange limitsAreKeptSpec)) limitsAreKeptCard

/-- THE TIED CARD OF 'logkeep2.GapsHaveNothing'. -/
def gapsHaveNothingCard : Claim7 := { stood := { row := gapsHaveNothingRow, standIns := [], harness := (true, "02d9aceda5f2e18284b45b95bd86ecaa724a87638b4e077bf702dd8f1412853c"), looks := true }, kinds := [], alts := [], laidByText := true, laidKinds := [.data, .data, .data, .sentinel, .sentinel], laidTests := true, laidLooks := .later }
def GapsHaveNothingCardSaid : Prop := Claim7.holds Tryz.pinned (.plain (OpenSpec.ofChange gapsHaveNothingSpec)) gapsHaveNothingCard

/-- THE TIED CARD OF 'logkeep2.KeptIsLostOnce'. -/
def keptIsLostOnceCard : Claim7 := { stood := { row := keptIsLostOnceRow, standIns := [], harness := (true, "02d9aceda5f2e18284b45b95bd86ecaa724a87638b4e077bf702dd8f1412853c"), looks := true }, kinds := [], alts := [], laidByText := true, laidKinds := [.data, .data, .data, .sentinel, .sentinel], laidTests := true, laidLooks := .later }
def KeptIsLostOnceCardSaid : Prop := Claim7.holds Tryz.pinned (.plain (OpenSpec.ofChange keptIsLostOnceSpec)) keptIsLostOnceCard

/-- THE TIED CARD OF 'logkeep2.PurgedIsKept'. -/
def purgedIsKeptCard : Claim7 := { stood := { row := purgedIsKeptRow, standIns := [], harness := (true, "02d9aceda5f2e18284b45b95bd86ecaa724a87638b4e077bf702dd8f1412853c"), looks := true }, kinds := [], alts := [], laidByText := true, laidKinds := [.data, .data, .data, .sentinel, .sentinel], laidTests := true, laidLooks := .later }
def PurgedIsKeptCardSaid : Prop := Claim7.holds Tryz.pinned (.plain (OpenSpec.ofChange purgedIsKeptSpec)) purgedIsKeptCard

/-- THE TIED CARD OF 'logkeep2.BinsAgree'. -/
def binsAgreeCard : Claim7 := { stood := { row := binsAgreeRow, standIns := [], harness := (true, "02d9aceda5f2e18284b45b95bd86ecaa724a87638b4e077bf702dd8f1412853c"), looks := true }, kinds := [], alts := [], laidByText := true, laidKinds := [.data, .data, .data, .sentinel, .sentinel], laidTests := true, laidLooks := .later }
def BinsAgreeCardSaid : Prop := Claim7.holds Tryz.pinned (.plain (OpenSpec.ofChange binsAgreeSpec)) binsAgreeCard

/-- THE TIED CARD OF 'logkeep2.SeriesAreOne'. -/
def seriesAreOneCard : Claim7 := { stood := { row := seriesAreOneRow, standIns := [], harness := (true, "02d9aceda5f2e18284b45b95bd86ecaa724a87638b4e077bf702dd8f1412853c"), looks := true }, kinds := [], alts := [], laidByText := true, laidKinds := [.data, .data, .data, .data, .sentinel, .sentinel, .pinned], laidTests := true, laidLooks := .later }
def SeriesAreOneCardSaid : Prop := Claim7.holds Tryz.pinned (.plain (OpenSpec.ofChange seriesAreOneSpec)) seriesAreOneCard

/-- THE TIED CARD OF 'logkeep2.RetainsStay'. -/
def retainsStayCard : Claim7 := { stood := { row := retainsStayRow, standIns := [], harness := (true, "02d9aceda5f2e18284b45b95bd86ecaa724a87638b4e077bf702dd8f1412853c"), looks := true }, kinds := [], alts := [], laidByText := true, laidKinds := [.data, .data, .data, .sentinel, .sentinel], laidTests := true, laidLooks := .later }
def RetainsStayCardSaid : Prop := Claim7.holds Tryz.pinned (.plain (OpenSpec.ofChange retainsStaySpec)) retainsStayCard

/-- THE TIED CARD OF 'logkeep2.SamplesStay'. -/
def samplesStayCard : Claim7 := { stood := { row := samplesStayRow, standIns := [], harness := (true, "02d9aceda5f2e18284b45b95bd86ecaa724a87638b4e077bf702dd8f1412853c"), looks := true }, kinds := [], alts := [], laidByText := true, laidKinds := [.data, .data, .data, .sentinel, .sentinel], laidTests := true, laidLooks := .later }
def SamplesStayCardSaid : Prop := Claim7.holds Tryz.pinned (.plain (OpenSpec.ofChange samplesStaySpec)) samplesStayCard

/-- THE SECOND FORM's CARD OF 'loglaw2.BinTexts'. -/
def binTextsUptoCard : Claim7 := { stood := { row := binTextsUptoRow, standIns := [], harness := (true, "02d9aceda5f2e18284b45b95bd86ecaa724a87638b4e077bf702dd8f1412853c"), looks := true }, kinds := [], alts := [], laidByText := true, laidKinds := [.data, .data, .data, .data, .sentinel, .sentinel, .pinned], laidTests := true, laidLooks := .later }
def BinTextsUptoCardSaid : Prop := Claim7.holds Tryz.pinned (.plain (OpenSpec.upto binTextsSpec)) binTextsUptoCard

/-- THE SECOND FORM's CARD OF 'logkeep2.ClocksRise'. -/
def clocksRiseUptoCard : Claim7 := { stood := { row := clocksRiseUptoRow, standIns := [], harness := (true, "02d9aceda5f2e18284b45b95bd86ecaa724a87638b4e077bf702dd8f1412853c"), looks := true }, kinds := [], alts := [], laidByText := true, laidKinds := [.data, .data, .data, .sentinel, .sentinel], laidTests := true, laidLooks := .later }
def ClocksRiseUptoCardSaid : Prop := Claim7.holds Tryz.pinned (.plain (OpenSpec.upto clocksRiseSpec)) clocksRiseUptoCard

/-- THE SECOND FORM's CARD OF 'logkeep2.LimitsAreKept'. -/
def limitsAreKeptUptoCard : Claim7 := { stood := { row := limitsAreKeptUptoRow, standIns := [], harness := (true, "02d9aceda5f2e18284b45b95bd86ecaa724a87638b4e077bf702dd8f1412853c"), looks := true }, kinds := [], alts := [], laidByText := true, laidKinds := [.data, .data, .data, .sentinel, .sentinel], laidTests := true, laidLooks := .later }
def LimitsAreKeptUptoCardSaid : Prop := Claim7.holds Tryz.pinned (.plain (OpenSpec.upto limitsAreKeptSpec)) limitsAreKeptUptoCard

/-- THE SECOND FORM's CARD OF 'logkeep2.GapsHaveNothing'. -/
def gapsHaveNothingUptoCard : Claim7 := { stood := { row := gapsHaveNothingUptoRow, standIns := [], harness := (true, "02d9aceda5f2e18284b45b95bd86ecaa724a87638b4e077bf702dd8f1412853c"), looks := true }, kinds := [], alts := [], laidByText := true, laidKinds := [.data, .data, .data, .sentinel, .sentinel], laidTests := true, laidLooks := .later }
def GapsHaveNothingUptoCardSaid : Prop := Claim7.holds Tryz.pinned (.plain (OpenSpec.upto gapsHaveNothingSpec)) gapsHaveNothingUptoCard

/-- THE SECOND FORM's CARD OF 'logkeep2.KeptIsLostOnce'. -/
def keptIsLostOnceUptoCard : Claim7 := { stood := { row := keptIsLostOnceUptoRow, standIns := [], harness := (true, "02d9aceda5f2e18284b45b95bd86ecaa724a87638b4e077bf702dd8f1412853c"), looks := true }, kinds := [], alts := [], laidByText := true, laidKinds := [.data, .data, .data, .sentinel, .sentinel], laidTests := true, laidLooks := .later }
def KeptIsLostOnceUptoCardSaid : Prop := Claim7.holds Tryz.pinned (.plain (OpenSpec.upto keptIsLostOnceSpec)) keptIsLostOnceUptoCard

/-- THE SECOND FORM's CARD OF 'logkeep2.PurgedIsKept'. -/
def purgedIsKeptUptoCard : Claim7 := { stood := { row := purgedIsKeptUptoRow, standIns := [], harness := (true, "02d9aceda5f2e18284b45b95bd86ecaa724a87638b4e077bf702dd8f1412853c"), looks := true }, kinds := [], alts := [], laidByText := true, laidKinds := [.data, .data, .data, .sentinel, .sentinel], laidTests := true, laidLooks := .later }
def PurgedIsKeptUptoCardSaid : Prop := Claim7.holds Tryz.pinned (.plain (OpenSpec.upto purgedIsKeptSpec)) purgedIsKeptUptoCard

/-- THE SECOND FORM's CARD OF 'logkeep2.BinsAgree'. -/
def binsAgreeUptoCard : Claim7 := { stood := { row := binsAgreeUptoRow, standIns := [], harness := (true, "02d9aceda5f2e18284b45b95bd86ecaa724a87638b4e077bf702dd8f1412853c"), looks := true }, kinds := [], alts := [], laidByText := true, laidKinds := [.data, .data, .data, .sentinel, .sentinel], laidTests := true, laidLooks := .later }
def BinsAgreeUptoCardSaid : Prop := Claim7.holds Tryz.pinned (.plain (OpenSpec.upto binsAgreeSpec)) binsAgreeUptoCard

/-- THE SECOND FORM's CARD OF 'logkeep2.SeriesAreOne'. -/
def seriesAreOneUptoCard : Claim7 := { stood := { row := seriesAreOneUptoRow, standIns := [], harness := (true, "02d9aceda5f2e18284b45b95bd86ecaa724a87638b4e077bf702dd8f1412853c"), looks := true }, kinds := [], alts := [], laidByText := true, laidKinds := [.data, .data, .data, .data, .sentinel, .sentinel, .pinned], laidTests := true, laidLooks := .later }
def SeriesAreOneUptoCardSaid : Prop := Claim7.holds Tryz.pinned (.plain (OpenSpec.upto seriesAreOneSpec)) seriesAreOneUptoCard

/-- THE SECOND FORM's CARD OF 'logkeep2.RetainsStay'. -/
def retainsStayUptoCard : Claim7 := { stood := { row := retainsStayUptoRow, standIns := [], harness := (true, "02d9aceda5f2e18284b45b95bd86ecaa724a87638b4e077bf702dd8f1412853c"), looks := true }, kinds := [], alts := [], laidByText := true, laidKinds := [.data, .data, .data, .sentinel, .sentinel], laidTests := true, laidLooks := .later }
def RetainsStayUptoCardSaid : Prop := Claim7.holds Tryz.pinned (.plain (OpenSpec.upto retainsStaySpec)) retainsStayUptoCard

/-- THE SECOND FORM's CARD OF 'logkeep2.SamplesStay'. -/
def samplesStayUptoCard : Claim7 := { stood := { row := samplesStayUptoRow, standIns := [], harness := (true, "02d9aceda5f2e18284b45b95bd86ecaa724a87638b4e077bf702dd8f1412853c"), looks := true }, kinds := [], alts := [], laidByText := true, laidKinds := [.data, .data, .data, .sentinel, .sentinel], laidTests := true, laidLooks := .later }
def SamplesStayUptoCardSaid : Prop := Claim7.holds Tryz.pinned (.plain (OpenSpec.upto samplesStaySpec)) samplesStayUptoCard
end Rows
end Go.Proofs.YtdcedhgkigpejaaGreatDoor
