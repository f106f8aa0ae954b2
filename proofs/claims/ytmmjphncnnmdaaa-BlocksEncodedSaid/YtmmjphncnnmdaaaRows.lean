/-
  No cell of these rows narrows 'for every input' (looked for: loops, veiled, ifaces, maps, wideKeys, modest, calm, conditions, laid).
  DERIVED. THE GIVEN ROWS OF THIS SEAT. 2 by the template 'for every input the law returns true; each argument reads behind the call as it read before'; 0 by the template 'total and deterministic' (their statements: YtmmjphncnnmdaaaTotals.lean).
  GIVEN WITH THE SEED: the statements are not yours to turn. If you find one false, say at which input.
  Laid BY PROGRAM, IN A SANDBOX (cutbox-rows.mjs): the forced cells as the released guide's own fill.sh prints them over the translation 776324c48f12e98f… (all of the seat's roots in one cut). By AI agents, Wed Nov 11 2026. No macro, syntax, notation, axiom, sorry.
-/
import Derived.Test.YtmmjphncnnmdaaaChecked
import GoSem.Claim
import GoSem.ClaimJoined
import GoSem.ClaimMapViews
import Derived.JoinedTies
import Derived.KernelRfl
namespace Go.Proofs.Ytmmjphncnnmdaaa
/- THE CELL 'sum', in the pinned program and in every row, IS THE sha256 OF THE DUMP (.gsa) THAT YtmmjphncnnmdaaaProg.lean LOADS. Nothing in Lean hashes anything: it is a label: what it is worth is what the hold of that sum in a sandbox is worth. -/
noncomputable def Try.pinned : Pinned := { name := "ytmmjphncnnmdaaa", sum := "776324c48f12e98f8c2d27f4457cfaa20029ec49f33eb21ca428697410303634", checked := Try.checked }
namespace Rows
def none {H : Type} : Left H := { results := [], args := [] }

/-- 'loglaw2.BlocksEncoded': WHATEVER THE INPUT: true; the input reads as it did. -/
def blocksEncodedSpec : ChangeSpec := { name := "blocksEncoded", fn := fun _ => fun
  | [d] => { results := [.lit (.bool true)], args := [d] }
  | _ => none }
def blocksEncodedRow : OpenClaim := { program := "ytmmjphncnnmdaaa", sum := "776324c48f12e98f8c2d27f4457cfaa20029ec49f33eb21ca428697410303634", func := "plantlog/loglaw2.BlocksEncoded", spec := "blocksEncoded", inPlace := ["internal/bytealg.IndexByteString", "slices.overlaps[byte]"], unfollowed := true, recurses := true, apart := false }
def BlocksEncodedSaid : Prop := blocksEncodedRow.holds Try.pinned (OpenSpec.ofChange blocksEncodedSpec)

/-- ITS FALSE NEIGHBOUR: 'it returns false'. Refute it at one input. -/
def blocksEncodedWrong : ChangeSpec := { name := "blocksEncoded", fn := fun _ => fun
  | [d] => { results := [.lit (.bool false)], args := [d] }
  | _ => none }
def BlocksEncodedWrongFalsely : Prop := blocksEncodedRow.holds Try.pinned (OpenSpec.ofChange blocksEncodedWrong)

/-- 'loglaw2.SeriesMerge': WHATEVER THE INPUT: true; the input reads as it did. -/
def seriesMergeSpec : ChangeSpec := { name := "seriesMerge", fn := fun _ => fun
  | [d] => { results := [.lit (.bool true)], args := [d] }
  | _ => none }
def seriesMergeRow : OpenClaim := { program := "ytmmjphncnnmdaaa", sum := "776324c48f12e98f8c2d27f4457cfaa20029ec49f33eb21ca428697410303634", func := "plantlog/loglaw2.SeriesMerge", spec := "seriesMerge", unfollowed := true, recurses := true, apart := false }
def SeriesMergeSaid : Prop := seriesMergeRow.holds Try.pinned (OpenSpec.ofChange seriesMergeSpec)

/-- ITS FALSE NEIGHBOUR: 'it returns false'. Refute it at one input. -/
def seriesMergeWrong : ChangeSpec := { name := "seriesMerge", fn := fun _ => fun
  | [d] => { results := [.lit (.bool false)], args := [d] }
  | _ => none }
def SeriesMergeWrongFalsely : Prop := seriesMergeRow.holds Try.pinned (OpenSpec.ofChange seriesMergeWrong)

/- THE SECOND FORM. 'bulk': how many values and letters a reading holds, each counted each time it is reached (what is shared counts as often as it is met; a slice's spare places count too). A statement '..UptoSaid' is the law's where the arguments, and the package variables that the reading takes, are together of bulk at most 1048576: NARROWER than '..Said'. Prove '..Said' where nothing that the law and all that it calls make is longer than what came in: it says more and counts as full. Else prove '..UptoSaid'. A law counts once. -/
mutual
def uptoBulk {H : Type} : DataW H → Nat
  | .lit (.string bytes) => bytes.length + 1
  | .lit _ => 1
  | .nil => 1
  | .ptr d => uptoBulk d + 1
  | .slice elems spare => uptoBulkAll elems + uptoBulkAll spare + 1
  | .agg parts => uptoBulkAll parts + 1
  | .iface _ d => uptoBulk d + 1
  | .map entries => uptoBulkEntries entries + 1
  | .held _ => 1
def uptoBulkAll {H : Type} : List (DataW H) → Nat
  | [] => 0
  | d :: r => uptoBulk d + uptoBulkAll r
def uptoBulkEntries {H : Type} : List (Lit × DataW H) → Nat
  | [] => 0
  | x :: r => uptoBulkEntry x + uptoBulkEntries r
def uptoBulkEntry {H : Type} : Lit × DataW H → Nat
  | (.string bytes, d) => bytes.length + uptoBulk d + 1
  | (_, d) => uptoBulk d + 1
 end
def uptoSmall : (H : Type) → List (DataW H) → Bool := fun _ ds => decide (uptoBulkAll ds ≤ 1048576)
def OpenSpec.upto (s : _root_.Go.ChangeSpec) : _root_.Go.OpenSpec := { _root_.Go.OpenSpec.ofChange s with cond := some uptoSmall }

/-- 'loglaw2.BlocksEncoded', WHERE WHAT IT READS IS OF BULK AT MOST 1048576: true; the input reads as it did. -/
def blocksEncodedUptoRow : OpenClaim := { program := "ytmmjphncnnmdaaa", sum := "776324c48f12e98f8c2d27f4457cfaa20029ec49f33eb21ca428697410303634", func := "plantlog/loglaw2.BlocksEncoded", spec := "blocksEncoded", inPlace := ["internal/bytealg.IndexByteString", "slices.overlaps[byte]"], unfollowed := true, recurses := true, apart := false, narrowed := true }
def BlocksEncodedUptoSaid : Prop := blocksEncodedUptoRow.holds Try.pinned (OpenSpec.upto blocksEncodedSpec)

/-- 'loglaw2.SeriesMerge', WHERE WHAT IT READS IS OF BULK AT MOST 1048576: true; the input reads as it did. -/
def seriesMergeUptoRow : OpenClaim := { program := "ytmmjphncnnmdaaa", sum := "776324c48f12e98f8c2d27f4457cfaa20029ec49f33eb21ca428697410303634", func := "plantlog/loglaw2.SeriesMerge", spec := "seriesMerge", unfollowed := true, recurses := true, apart := false, narrowed := true }
def SeriesMergeUptoSaid : Prop := seriesMergeUptoRow.holds Try.pinned (OpenSpec.upto seriesMergeSpec)

end Rows
end Go.Proofs.Ytmmjphncnnmdaaa
