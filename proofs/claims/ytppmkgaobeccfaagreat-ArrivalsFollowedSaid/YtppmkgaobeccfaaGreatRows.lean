/-
  No cell of these rows narrows 'for every input' (looked for: loops, veiled, ifaces, maps, wideKeys, modest, calm, conditions, laid).
  DERIVED. THE GIVEN ROWS OF THIS SEAT. 3 by the template 'for every input the law returns true; each argument reads behind the call as it read before'; 0 by the template 'total and deterministic' (their statements: YtppmkgaobeccfaaGreatTotals.lean).
  GIVEN WITH THE SEED: the statements are not yours to turn. If you find one false, say at which input.
  Laid BY PROGRAM, IN A SANDBOX (cutbox-rows.mjs): the forced cells as the released guide's own fill.sh prints them over the translation a24344c2d3e90b7f… (all of the seat's roots in one cut). By AI agents, Wed Nov 11 2026. No macro, syntax, notation, axiom, sorry.
-/
import Derived.Test.YtppmkgaobeccfaaGreatChecked
import GoSem.Claim
import GoSem.ClaimJoined
import GoSem.ClaimMapViews
import Derived.JoinedTies
import Derived.KernelRfl
namespace Go.Proofs.YtppmkgaobeccfaaGreat
/- THE CELL 'sum', in the pinned program and in every row, IS THE sha256 OF THE DUMP (.gsa) THAT YtppmkgaobeccfaaGreatProg.lean LOADS. Nothing in Lean hashes anything: it is a label: what it is worth is what the hold of that sum in a sandbox is worth. -/
noncomputable def Tryz.pinned : Pinned := { name := "ytppmkgaobeccfaagreat", sum := "a24344c2d3e90b7f4f0e9f950f4b22c5437deca0667298fadeffe321ca5ab6bf", checked := Tryz.checked }
namespace Rows
def none {H : Type} : Left H := { results := [], args := [] }

/-- 'loglaw2.ClocksCorrected': WHATEVER THE INPUT: true; the input reads as it did. -/
def clocksCorrectedSpec : ChangeSpec := { name := "clocksCorrected", fn := fun _ => fun
  | [d] => { results := [.lit (.bool true)], args := [d] }
  | _ => none }
def clocksCorrectedRow : OpenClaim := { program := "ytppmkgaobeccfaagreat", sum := "a24344c2d3e90b7f4f0e9f950f4b22c5437deca0667298fadeffe321ca5ab6bf", func := "plantlog/loglaw2.ClocksCorrected", spec := "clocksCorrected", inPlace := ["internal/bytealg.abigen_runtime_cmpstring", "internal/bytealg.IndexByteString"], unfollowed := true, recurses := true, plainKeys := false, apart := false }
def ClocksCorrectedSaid : Prop := clocksCorrectedRow.holds Tryz.pinned (OpenSpec.ofChange clocksCorrectedSpec)

/-- ITS FALSE NEIGHBOUR: 'it returns false'. Refute it at one input. -/
def clocksCorrectedWrong : ChangeSpec := { name := "clocksCorrected", fn := fun _ => fun
  | [d] => { results := [.lit (.bool false)], args := [d] }
  | _ => none }
def ClocksCorrectedWrongFalsely : Prop := clocksCorrectedRow.holds Tryz.pinned (OpenSpec.ofChange clocksCorrectedWrong)

/-- 'loglaw2.ArrivalsFollowed': WHATEVER THE INPUT: true; the input reads as it did. -/
def arrivalsFollowedSpec : ChangeSpec := { name := "arrivalsFollowed", fn := fun _ => fun
  | [d] => { results := [.lit (.bool true)], args := [d] }
  | _ => none }
def arrivalsFollowedRow : OpenClaim := { program := "ytppmkgaobeccfaagreat", sum := "a24344c2d3e90b7f4f0e9f950f4b22c5437deca0667298fadeffe321ca5ab6bf", func := "plantlog/loglaw2.ArrivalsFollowed", spec := "arrivalsFollowed", inPlace := ["internal/bytealg.abigen_runtime_cmpstring", "internal/bytealg.IndexByteString"], unfollowed := true, recurses := true, plainKeys := false, apart := false }
def ArrivalsFollowedSaid : Prop := arrivalsFollowedRow.holds Tryz.pinned (OpenSpec.ofChange arrivalsFollowedSpec)

/-- ITS FALSE NEIGHBOUR: 'it returns false'. Refute it at one input. -/
def arrivalsFollowedWrong : ChangeSpec := { name := "arrivalsFollowed", fn := fun _ => fun
  | [d] => { results := [.lit (.bool false)], args := [d] }
  | _ => none }
def ArrivalsFollowedWrongFalsely : Prop := arrivalsFollowedRow.holds Tryz.pinned (OpenSpec.ofChange arrivalsFollowedWrong)

/-- 'loglaw2.FixesApplied': WHATEVER THE INPUT: true; the input reads as it did. -/
def fixesAppliedSpec : ChangeSpec := { name := "fixesApplied", fn := fun _ => fun
  | [d] => { results := [.lit (.bool true)], args := [d] }
  | _ => none }
def fixesAppliedRow : OpenClaim := { program := "ytppmkgaobeccfaagreat", sum := "a24344c2d3e90b7f4f0e9f950f4b22c5437deca0667298fadeffe321ca5ab6bf", func := "plantlog/loglaw2.FixesApplied", spec := "fixesApplied", inPlace := ["internal/bytealg.abigen_runtime_cmpstring", "internal/bytealg.IndexByteString"], unfollowed := true, recurses := true, plainKeys := false, apart := false }
def FixesAppliedSaid : Prop := fixesAppliedRow.holds Tryz.pinned (OpenSpec.ofChange fixesAppliedSpec)

/-- ITS FALSE NEIGHBOUR: 'it returns false'. Refute it at one input. -/
def fixesAppliedWrong : ChangeSpec := { name := "fixesApplied", fn := fun _ => fun
  | [d] => { results := [.lit (.bool false)], args := [d] }
  | _ => none }
def FixesAppliedWrongFalsely : Prop := fixesAppliedRow.holds Tryz.pinned (OpenSpec.ofChange fixesAppliedWrong)

/- THE SECOND FORM. 'bulk': how many values and letters a reading holds, each counted each time it is reached (what is shared counts as often as it is met; a slice's spare places count too). A statement '..UptoSaid' is the law's where the arguments, and the package variables that the reading takes, are together of bulk at most 1048576: NARROWER than '..Said'. Prove '..Said' where nothing that the law and all that it calls make is longer than what came in: it says more and counts as full. Else prove '..UptoSaid'. A law counts once. -/
mutual
def uptoBulk {H : Type} : DataW H → Nat
  | .lit (.string bytes) => bytes.length + 1
  | .lit _ => 1
  | .nil => 1
  | .ptr d => uptoBulk d + 1
  | .slice elems spare => uptoBulkAll elems + uptoBulkAll spare + 1
  | .agg parts => uptoBulkAll parts + 1
  | .iface _ d => uptoBulk d + 1
  | .map entries => uptoBulkEntries entries + 1
  | .held _ => 1
def uptoBulkAll {H : Type} : List (DataW H) → Nat
  | [] => 0
  | d :: r => uptoBulk d + uptoBulkAll r
def uptoBulkEntries {H : Type} : List (Lit × DataW H) → Nat
  | [] => 0
  | x :: r => uptoBulkEntry x + uptoBulkEntries r
def uptoBulkEntry {H : Type} : Lit × DataW H → Nat
  | (.string bytes, d) => bytes.length + uptoBulk d + 1
  | (_, d) => uptoBulk d + 1
 end
def uptoSmall : (H : Type) → List (DataW H) → Bool := fun _ ds => decide (uptoBulkAll ds ≤ 1048576)
def OpenSpec.upto (s : _root_.Go.ChangeSpec) : _root_.Go.OpenSpec := { _root_.Go.OpenSpec.ofChange s with cond := some uptoSmall }

/-- 'loglaw2.ClocksCorrected', WHERE WHAT IT READS IS OF BULK AT MOST 1048576: true; the input reads as it did. -/
def clocksCorrectedUptoRow : OpenClaim := { program := "ytppmkgaobeccfaagreat", sum := "a24344c2d3e90b7f4f0e9f950f4b22c5437deca0667298fadeffe321ca5ab6bf", func := "plantlog/loglaw2.ClocksCorrected", spec := "clocksCorrected", inPlace := ["internal/bytealg.abigen_runtime_cmpstring", "internal/bytealg.IndexByteString"], unfollowed := true, recurses := true, plainKeys := false, apart := false, narrowed := true }
def ClocksCorrectedUptoSaid : Prop := clocksCorrectedUptoRow.holds Tryz.pinned (OpenSpec.upto clocksCorrectedSpec)

/-- 'loglaw2.ArrivalsFollowed', WHERE WHAT IT READS IS OF BULK AT MOST 1048576: true; the input reads as it did. -/
def arrivalsFollowedUptoRow : OpenClaim := { program := "ytppmkgaobeccfaagreat", sum := "a24344c2d3e90b7f4f0e9f950f4b22c5437deca0667298fadeffe321ca5ab6bf", func := "plantlog/loglaw2.ArrivalsFollowed", spec := "arrivalsFollowed", inPlace := ["internal/bytealg.abigen_runtime_cmpstring", "internal/bytealg.IndexByteString"], unfollowed := true, recurses := true, plainKeys := false, apart := false, narrowed := true }
def ArrivalsFollowedUptoSaid : Prop := arrivalsFollowedUptoRow.holds Tryz.pinned (OpenSpec.upto arrivalsFollowedSpec)

/-- 'loglaw2.FixesApplied', WHERE WHAT IT READS IS OF BULK AT MOST 1048576: true; the input reads as it did. -/
def fixesAppliedUptoRow : OpenClaim := { program := "ytppmkgaobeccfaagreat", sum := "a24344c2d3e90b7f4f0e9f950f4b22c5437deca0667298fadeffe321ca5ab6bf", func := "plantlog/loglaw2.FixesApplied", spec := "fixesApplied", inPlace := ["internal/bytealg.abigen_runtime_cmpstring", "internal/bytealg.IndexByteString"], unfollowed := true, recurses := true, plainKeys := false, apart := false, narrowed := true }
def FixesAppliedUptoSaid : Prop := fixesAppliedUptoRow.holds Tryz.pinned (OpenSpec.upto fixesAppliedSpec)

end Rows
end Go.Proofs.YtppmkgaobeccfaaGreat
