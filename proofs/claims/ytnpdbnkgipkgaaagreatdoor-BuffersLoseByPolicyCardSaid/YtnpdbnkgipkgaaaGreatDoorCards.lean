/-
  DERIVED. GIVEN WITH THE SEED: THE CARDS: each row of YtnpdbnkgipkgaaaGreatDoorRows.lean that lists a variable, with what it lists TIED to the program's text (the seventh form; the later family's looks); each row that meets fmt, with fmt's text TOLD by the authors' own Lean function (tested against real Go, not proved from fmt's source: count such statements apart). THE CARD IS WHAT COUNTS. Prove the row's statement (the work); the ties are given (YtnpdbnkgipkgaaaGreatDoorTie.lean); close each card by the builder's one call (the guide's Derived/Test/ToyasCard.lean, 'card_holds'). Laid BY PROGRAM, IN A SANDBOX (cutbox-door.mjs). By AI agents, Wed Nov 11 2026. No macro, syntax, notation, axiom, sorry.
-/
import Derived.Test.YtnpdbnkgipkgaaaGreatDoorRows
import GoSem.ClaimSeven
namespace Go.Proofs.YtnpdbnkgipkgaaaGreatDoor
namespace Rows

/-- THE TIED CARD OF 'logkeep2.SmallBuffersStaySmall'. -/
def smallBuffersStaySmallCard : Claim7 := { stood := { row := smallBuffersStaySmallRow, standIns := [], harness := (true, "b4800e9c0b84c965e4e8e263a4ccd9ba4a1c26168e043b798c22119ddb753cde"), looks := true }, kinds := [], alts := [], laidByText := true, laidKinds := [.data, .data, .data, .sentinel, .sentinel], laidTests := true, laidLooks := .later }
def SmallBuffersStaySmallCardSaid : Prop := Claim7.holds Tryz.pinned (.plain (OpenSpec.ofChange smallBuffersStaySmallSpec)) smallBuffersStaySmallCard

/-- THE TIED CARD OF 'logkeep2.BuffersLoseByPolicy'. -/
def buffersLoseByPolicyCard : Claim7 := { stood := { row := buffersLoseByPolicyRow, standIns := [], harness := (true, "b4800e9c0b84c965e4e8e263a4ccd9ba4a1c26168e043b798c22119ddb753cde"), looks := true }, kinds := [], alts := [], laidByText := true, laidKinds := [.data, .data, .data, .sentinel, .sentinel], laidTests := true, laidLooks := .later }
def BuffersLoseByPolicyCardSaid : Prop := Claim7.holds Tryz.pinned (.plain (OpenSpec.ofChange buffersLoseByPolicySpec)) buffersLoseByPolicyCard

/-- THE SECOND FORM's CARD OF 'logkeep2.SmallBuffersStaySmall'. -/
def smallBuffersStaySmallUptoCard : Claim7 := { stood := { row := smallBuffersStaySmallUptoRow, standIns := [], harness := (true, "b4800e9c0b84c965e4e8e263a4ccd9ba4a1c26168e043b798c22119ddb753cde"), looks := true }, kinds := [], alts := [], laidByText := true, laidKinds := [.data, .data, .data, .sentinel, .sentinel], laidTests := true, laidLooks := .later }
def SmallBuffersStaySmallUptoCardSaid : Prop := Claim7.holds Tryz.pinned (.plain (OpenSpec.upto smallBuffersStaySmallSpec)) smallBuffersStaySmallUptoCard

/-- THE SECOND FORM's CARD OF 'logkeep2.BuffersLoseByPolicy'. -/
def buffersLoseByPolicyUptoCard : Claim7 := { stood := { row := buffersLoseByPolicyUptoRow, standIns := [], harness := (true, "b4800e9c0b84c965e4e8e263a4ccd9ba4a1c26168e043b798c22119ddb753cde"), looks := true }, kinds := [], alts := [], laidByText := true, laidKinds := [.data, .data, .data, .sentinel, .sentinel], laidTests := true, laidLooks := .later }
def BuffersLoseByPolicyUptoCardSaid : Prop := Claim7.holds Tryz.pinned (.plain (OpenSpec.upto buffersLoseByPolicySpec)) buffersLoseByPolicyUptoCard
end Rows
end Go.Proofs.YtnpdbnkgipkgaaaGreatDoor
