/- Arrivals that are there twice: the document's answer. Condition: at most a million. -/
import Derived.Test.YtppmkgaobeccfaaGreatDoorHVArrF
import Derived.Test.YtppmkgaobeccfaaGreatDoorHVGK
namespace Go.Proofs.YtppmkgaobeccfaaGreatDoor
open Go Go.RowKit
set_option maxRecDepth 100000
set_option linter.all false
set_option maxHeartbeats 1000000
variable {H : Hp} {K : AV → Hp → Prop}
def isD (l : List Arr) (i : Nat) : Bool := match l[i]? with | some x => (l.take i).any (fun b => sameK x b) | none => false
def dupF (l : List Arr) (k : Nat) : List Int := ((List.range k).filter (isD l)).map fun i : Nat => (i : Int)
theorem dupF_next (l : List Arr) (k : Nat) : dupF l (k + 1) = dupF l k ++ (if isD l k = true then [(k : Int)] else []) := by
  unfold dupF
  rw [List.range_succ, List.filter_append, List.map_append]
  congr 1
  cases h : isD l k <;> simp [h]
theorem dupF_len (l : List Arr) (k : Nat) : (dupF l k).length ≤ k := by
  unfold dupF
  rw [List.length_map]
  have := List.length_filter_le (isD l) (List.range k)
  rwa [List.length_range] at this
end Go.Proofs.YtppmkgaobeccfaaGreatDoor
