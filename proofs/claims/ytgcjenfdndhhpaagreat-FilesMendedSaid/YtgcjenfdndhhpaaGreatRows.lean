/-
  No cell of these rows narrows 'for every input' (looked for: loops, veiled, ifaces, maps, wideKeys, modest, calm, conditions, laid).
  DERIVED. THE GIVEN ROWS OF THIS SEAT. 3 by the template 'for every input the law returns true; each argument reads behind the call as it read before'; 0 by the template 'total and deterministic' (their statements: YtgcjenfdndhhpaaGreatTotals.lean).
  GIVEN WITH THE SEED: the statements are not yours to turn. If you find one false, say at which input.
  Laid BY PROGRAM, IN A SANDBOX (cutbox-rows.mjs): the forced cells as the released guide's own fill.sh prints them over the translation ed8be617d3f3067b… (all of the seat's roots in one cut). By AI agents, Wed Nov 11 2026. No macro, syntax, notation, axiom, sorry.
-/
import Derived.Test.YtgcjenfdndhhpaaGreatChecked
import GoSem.Claim
import GoSem.ClaimJoined
import GoSem.ClaimMapViews
import Derived.JoinedTies
import Derived.KernelRfl
namespace Go.Proofs.YtgcjenfdndhhpaaGreat
/- THE CELL 'sum', in the pinned program and in every row, IS THE sha256 OF THE DUMP (.gsa) THAT YtgcjenfdndhhpaaGreatProg.lean LOADS. Nothing in Lean hashes anything: it is a label: what it is worth is what the hold of that sum in a sandbox is worth. -/
noncomputable def Tryz.pinned : Pinned := { name := "ytgcjenfdndhhpaagreat", sum := "ed8be617d3f3067bea88a5a447161fb62b9b90cb849182cfbcab7125abadbc78", checked := Tryz.checked }
namespace Rows
def none {H : Type} : Left H := { results := [], args := [] }

/-- 'loglaw2.FilesMended': WHATEVER THE INPUT: true; the input reads as it did. -/
def filesMendedSpec : ChangeSpec := { name := "filesMended", fn := fun _ => fun
  | [d] => { results := [.lit (.bool true)], args := [d] }
  | _ => none }
def filesMendedRow : OpenClaim := { program := "ytgcjenfdndhhpaagreat", sum := "ed8be617d3f3067bea88a5a447161fb62b9b90cb849182cfbcab7125abadbc78", func := "plantlog/loglaw2.FilesMended", spec := "filesMended", inPlace := ["internal/bytealg.IndexByteString", "slices.overlaps[byte]"], unfollowed := true, recurses := true, plainKeys := false, apart := false }
def FilesMendedSaid : Prop := filesMendedRow.holds Tryz.pinned (OpenSpec.ofChange filesMendedSpec)

/-- ITS FALSE NEIGHBOUR: 'it returns false'. Refute it at one input. -/
def filesMendedWrong : ChangeSpec := { name := "filesMended", fn := fun _ => fun
  | [d] => { results := [.lit (.bool false)], args := [d] }
  | _ => none }
def FilesMendedWrongFalsely : Prop := filesMendedRow.holds Tryz.pinned (OpenSpec.ofChange filesMendedWrong)

/-- 'loglaw2.FilesRead': WHATEVER THE INPUT: true; the input reads as it did. -/
def filesReadSpec : ChangeSpec := { name := "filesRead", fn := fun _ => fun
  | [d] => { results := [.lit (.bool true)], args := [d] }
  | _ => none }
def filesReadRow : OpenClaim := { program := "ytgcjenfdndhhpaagreat", sum := "ed8be617d3f3067bea88a5a447161fb62b9b90cb849182cfbcab7125abadbc78", func := "plantlog/loglaw2.FilesRead", spec := "filesRead", inPlace := ["internal/bytealg.IndexByteString", "slices.overlaps[byte]"], unfollowed := true, recurses := true, plainKeys := false, apart := false }
def FilesReadSaid : Prop := filesReadRow.holds Tryz.pinned (OpenSpec.ofChange filesReadSpec)

/-- ITS FALSE NEIGHBOUR: 'it returns false'. Refute it at one input. -/
def filesReadWrong : ChangeSpec := { name := "filesRead", fn := fun _ => fun
  | [d] => { results := [.lit (.bool false)], args := [d] }
  | _ => none }
def FilesReadWrongFalsely : Prop := filesReadRow.holds Tryz.pinned (OpenSpec.ofChange filesReadWrong)

/-- 'loglaw2.FixesApplied': WHATEVER THE INPUT: true; the input reads as it did. -/
def fixesAppliedSpec : ChangeSpec := { name := "fixesApplied", fn := fun _ => fun
  | [d] => { results := [.lit (.bool true)], args := [d] }
  | _ => none }
def fixesAppliedRow : OpenClaim := { program := "ytgcjenfdndhhpaagreat", sum := "ed8be617d3f3067bea88a5a447161fb62b9b90cb849182cfbcab7125abadbc78", func := "plantlog/loglaw2.FixesApplied", spec := "fixesApplied", inPlace := ["internal/bytealg.abigen_runtime_cmpstring", "internal/bytealg.IndexByteString"], unfollowed := true, recurses := true, plainKeys := false, apart := false }
def FixesAppliedSaid : Prop := fixesAppliedRow.holds Tryz.pinned (OpenSpec.ofChange fixesAppliedSpec)

/-- ITS FALSE NEIGHBOUR: 'it returns false'. Refute it at one input. -/
def fixesAppliedWrong : ChangeSpec := { name := "fixesApplied", fn := fun _ => fun
  | [d] => { results := [.lit (.bool false)], args := [d] }
  | _ => none }
def FixesAppliedWrongFalsely : Prop := fixesAppliedRow.holds Tryz.pinned (OpenSpec.ofChange fixesAppliedWrong)

/- THE SECOND FORM. 'bulk': how many values and letters a reading holds, each counted each time it is reached (what is shared counts as often as it is met; a slice's spare places count too). A statement '..UptoSaid' is the law's where the arguments, and the package variables that the reading takes, are together of bulk at most 1048576: NARROWER than '..Said'. Prove '..Said' where nothing that the law and all that it calls make is longer than what came in: it says more and counts as full. Else prove '..UptoSaid'. A law counts once. -/
mutual
def uptoBulk {H : Type} : DataW H → Nat
  | .lit (.string bytes) => bytes.length + 1
  | .lit _ => 1
  | .nil => 1
  | .ptr d => uptoBulk d + 1
  | .slice elems spare => uptoBulkAll elems + uptoBulkAll spare + 1
  | .agg parts => uptoBulkAll parts + 1
  | .iface _ d => uptoBulk d + 1
  | .map entries => uptoBulkEntries entries + 1
  | .held _ => 1
def uptoBulkAll {H : Type} : List (DataW H) → Nat
  | [] => 0
  | d :: r => uptoBulk d + uptoBulkAll r
def uptoBulkEntries {H : Type} : List (Lit × DataW H) → Nat
  | [] => 0
  | x :: r => uptoBulkEntry x + uptoBulkEntries r
def uptoBulkEntry {H : Type} : Lit × DataW H → Nat
  | (.string bytes, d) => bytes.length + uptoBulk d + 1
  | (_, d) => uptoBulk d + 1
 end
def uptoSmall : (H : Type) → List (DataW H) → Bool := fun _ ds => decide (uptoBulkAll ds ≤ 1048576)
def OpenSpec.upto (s : _root_.Go.ChangeSpec) : _root_.Go.OpenSpec := { _root_.Go.OpenSpec.ofChange s with cond := some uptoSmall }

/-- 'loglaw2.FilesMended', WHERE WHAT IT READS IS OF BULK AT MOST 1048576: true; the input reads as it did. -/
def filesMendedUptoRow : OpenClaim := { program := "ytgcjenfdndhhpaagreat", sum := "ed8be617d3f3067bea88a5a447161fb62b9b90cb849182cfbcab7125abadbc78", func := "plantlog/loglaw2.FilesMended", spec := "filesMended", inPlace := ["internal/bytealg.IndexByteString", "slices.overlaps[byte]"], unfollowed := true, recurses := true, plainKeys := false, apart := false, narrowed := true }
def FilesMendedUptoSaid : Prop := filesMendedUptoRow.holds Tryz.pinned (OpenSpec.upto filesMendedSpec)

/-- 'loglaw2.FilesRead', WHERE WHAT IT READS IS OF BULK AT MOST 1048576: true; the input reads as it did. -/
def filesReadUptoRow : OpenClaim := { program := "ytgcjenfdndhhpaagreat", sum := "ed8be617d3f3067bea88a5a447161fb62b9b90cb849182cfbcab7125abadbc78", func := "plantlog/loglaw2.FilesRead", spec := "filesRead", inPlace := ["internal/bytealg.IndexByteString", "slices.overlaps[byte]"], unfollowed := true, recurses := true, plainKeys := false, apart := false, narrowed := true }
def FilesReadUptoSaid : Prop := filesReadUptoRow.holds Tryz.pinned (OpenSpec.upto filesReadSpec)

/-- 'loglaw2.FixesApplied', WHERE WHAT IT READS IS OF BULK AT MOST 1048576: true; the input reads as it did. -/
def fixesAppliedUptoRow : OpenClaim := { program := "ytgcjenfdndhhpaagreat", sum := "ed8be617d3f3067bea88a5a447161fb62b9b90cb849182cfbcab7125abadbc78", func := "plantlog/loglaw2.FixesApplied", spec := "fixesApplied", inPlace := ["internal/bytealg.abigen_runtime_cmpstring", "internal/bytealg.IndexByteString"], unfollowed := true, recurses := true, plainKeys := false, apart := false, narrowed := true }
def FixesAppliedUptoSaid : Prop := fixesAppliedUptoRow.holds Tryz.pinned (OpenSpec.upto fixesAppliedSpec)

end Rows
end Go.Proofs.YtgcjenfdndhhpaaGreat
