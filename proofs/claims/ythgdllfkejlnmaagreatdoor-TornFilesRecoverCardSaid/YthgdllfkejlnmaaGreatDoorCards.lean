/-
  DERIVED. GIVEN WITH THE SEED: THE CARDS: each row of YthgdllfkejlnmaaGreatDoorRows.lean that lists a variable, with what it lists TIED to the program's text (the seventh form; the later family's looks); each row that meets fmt, with fmt's text TOLD by the authors' own Lean function (tested against real Go, not proved from fmt's source: count such statements apart). THE CARD IS WHAT COUNTS. Prove the row's statement (the work); the ties are given (YthgdllfkejlnmaaGreatDoorTie.lean); close each card by the builder's one call (the guide's Derived/Test/ToyasCard.lean, 'card_holds'). Laid BY PROGRAM, IN A SANDBOX (cutbox-door.mjs). By AI agents, Wed Nov 11 2026. No macro, syntax, notation, axiom, sorry.
-/
import Derived.Test.YthgdllfkejlnmaaGreatDoorRows
import GoSem.ClaimSeven
namespace Go.Proofs.YthgdllfkejlnmaaGreatDoor
namespace Rows

/-- THE TIED CARD OF 'logkeep2.NumbersComeBack'. -/
def numbersComeBackCard : Claim7 := { stood := { row := numbersComeBackRow, standIns := [], harness := (true, "9ed3d7d5d63c327918e5c3eaf2a0a8e6f42355a26ecba0593f73f456bc32be6b"), looks := true }, kinds := [], alts := [], laidByText := true, laidKinds := [.data, .data, .data, .sentinel, .sentinel], laidTests := true, laidLooks := .later }
def NumbersComeBackCardSaid : Prop := Claim7.holds Tryz.pinned (.plain (OpenSpec.ofChange numbersComeBackSpec)) numbersComeBackCard

/-- THE TIED CARD OF 'logkeep2.TornFilesRecover'. -/
def tornFilesRecoverCard : Claim7 := { stood := { row := tornFilesRecoverRow, standIns := [], harness := (true, "9ed3d7d5d63c327918e5c3eaf2a0a8e6f42355a26ecba0593f73f456bc32be6b"), looks := true }, kinds := [], alts := [], laidByText := true, laidKinds := [.data, .data, .data, .sentinel, .sentinel], laidTests := true, laidLooks := .later }
def TornFilesRecoverCardSaid : Prop := Claim7.holds Tryz.pinned (.plain (OpenSpec.ofChange tornFilesRecoverSpec)) tornFilesRecoverCard

/-- THE TIED CARD OF 'logkeep2.SmallBuffersStaySmall'. -/
def smallBuffersStaySmallCard : Claim7 := { stood := { row := smallBuffersStaySmallRow, standIns := [], harness := (true, "9ed3d7d5d63c327918e5c3eaf2a0a8e6f42355a26ecba0593f73f456bc32be6b"), looks := true }, kinds := [], alts := [], laidByText := true, laidKinds := [.data, .data, .data, .sentinel, .sentinel], laidTests := true, laidLooks := .later }
def SmallBuffersStaySmallCardSaid : Prop := Claim7.holds Tryz.pinned (.plain (OpenSpec.ofChange smallBuffersStaySmallSpec)) smallBuffersStaySmallCard

/-- THE TIED CARD OF 'logkeep2.BuffersLoseByPolicy'. -/
def buffersLoseByPolicyCard : Claim7 := { stood := { row := buffersLoseByPolicyRow, standIns := [], harness := (true, "9ed3d7d5d63c327918e5c3eaf2a0a8e6f42355a26ecba0593f73f456bc32be6b"), looks := true }, kinds := [], alts := [], laidByText := true, laidKinds := [.data, .data, .data, .sentinel, .sentinel], laidTests := true, laidLooks := .later }
def BuffersLoseByPolicyCardSaid : Prop := Claim7.holds Tryz.pinned (.plain (OpenSpec.ofChange buffersLoseByPolicySpec)) buffersLoseByPolicyCard

/-- THE SECOND FORM's CARD OF 'logkeep2.NumbersComeBack'. -/
def numbersComeBackUptoCard : Claim7 := { stood := { row := numbersComeBackUptoRow, standIns := [], harness := (true, "9ed3d7d5d63c327918e5c3eaf2a0a8e6f42355a26ecba0593f73f456bc32be6b"), looks := true }, kinds := [], alts := [], laidByText := true, laidKinds := [.data, .data, .data, .sentinel, .sentinel], laidTests := true, laidLooks := .later }
def NumbersComeBackUptoCardSaid : Prop := Claim7.holds Tryz.pinned (.plain (OpenSpec.upto numbersComeBackSpec)) numbersComeBackUptoCard

/-- THE SECOND FORM's CARD OF 'logkeep2.TornFilesRecover'. -/
def tornFilesRecoverUptoCard : Claim7 := { stood := { row := tornFilesRecoverUptoRow, standIns := [], harness := (true, "9ed3d7d5d63c327918e5c3eaf2a0a8e6f42355a26ecba0593f73f456bc32be6b"), looks := true }, kinds := [], alts := [], laidByText := true, laidKinds := [.data, .data, .data, .sentinel, .sentinel], laidTests := true, laidLooks := .later }
def TornFilesRecoverUptoCardSaid : Prop := Claim7.holds Tryz.pinned (.plain (OpenSpec.upto tornFilesRecoverSpec)) tornFilesRecoverUptoCard

/-- THE SECOND FORM's CARD OF 'logkeep2.SmallBuffersStaySmall'. -/
def smallBuffersStaySmallUptoCard : Claim7 := { stood := { row := smallBuffersStaySmallUptoRow, standIns := [], harness := (true, "9ed3d7d5d63c327918e5c3eaf2a0a8e6f42355a26ecba0593f73f456bc32be6b"), looks := true }, kinds := [], alts := [], laidByText := true, laidKinds := [.data, .data, .data, .sentinel, .sentinel], laidTests := true, laidLooks := .later }
def SmallBuffersStaySmallUptoCardSaid : Prop := Claim7.holds Tryz.pinned (.plain (OpenSpec.upto smallBuffersStaySmallSpec)) smallBuffersStaySmallUptoCard

/-- THE SECOND FORM's CARD OF 'logkeep2.BuffersLoseByPolicy'. -/
def buffersLoseByPolicyUptoCard : Claim7 := { stood := { row := buffersLoseByPolicyUptoRow, standIns := [], harness := (true, "9ed3d7d5d63c327918e5c3eaf2a0a8e6f42355a26ecba0593f73f456bc32be6b"), looks := true }, kinds := [], alts := [], laidByText := true, laidKinds := [.data, .data, .data, .sentinel, .sentinel], laidTests := true, laidLooks := .later }
def BuffersLoseByPolicyUptoCardSaid : Prop := Claim7.holds Tryz.pinned (.plain (OpenSpec.upto buffersLoseByPolicySpec)) buffersLoseByPolicyUptoCard
end Rows
end Go.Proofs.YthgdllfkejlnmaaGreatDoor
