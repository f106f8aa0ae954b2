/- Several texts in one: slices, and what follows. No condition. -/
import Derived.Shelf.Sort.Plain
import Derived.Test.YtgcjenfdndhhpaaGreatDoorHVGA
import Derived.Test.YtgcjenfdndhhpaaGreatDoorHVGK
import Derived.Test.YtgcjenfdndhhpaaGreatDoorHVAnswerR
/- slices.Sort of integers: the kit's contract in the heap's words. No condition. -/
namespace Go.Proofs.YtgcjenfdndhhpaaGreatDoor
open Go Go.RowKit Go.Shelf
set_option maxRecDepth 100000
set_option linter.all false
set_option maxHeartbeats 1000000
variable {H : Hp} {K : AV → Hp → Prop}
def srtI (l : List Int) : List Int := l.mergeSort fun x y => decide (x ≤ y)
theorem srtI_len (l : List Int) : (srtI l).length = l.length := by unfold srtI; rw [List.length_mergeSort]
end Go.Proofs.YtgcjenfdndhhpaaGreatDoor
/- Numbers as rows. Condition: there are not too many, and they are small. -/
namespace Go.Proofs.YtgcjenfdndhhpaaGreatDoor
open Go Go.RowKit
set_option maxRecDepth 100000
set_option linter.all false
set_option maxHeartbeats 1000000
variable {H : Hp} {K : AV → Hp → Prop}
theorem srtI_mem {l : List Int} {x : Int} : x ∈ srtI l ↔ x ∈ l := by unfold srtI; exact (List.mergeSort_perm l _).mem_iff
end Go.Proofs.YtgcjenfdndhhpaaGreatDoor
