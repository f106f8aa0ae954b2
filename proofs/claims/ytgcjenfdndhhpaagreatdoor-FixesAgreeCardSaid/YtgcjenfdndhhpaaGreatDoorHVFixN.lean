/- What the program answers of series and fixes is what the document answers, faults and all. No program in sight. -/
import Derived.Test.YtgcjenfdndhhpaaGreatDoorHVFixE
import Derived.Test.YtgcjenfdndhhpaaGreatDoorHVFixH
import Derived.Test.YtgcjenfdndhhpaaGreatDoorHVFixS
import Derived.Test.YtgcjenfdndhhpaaGreatDoorHVFixI
import Derived.Test.YtgcjenfdndhhpaaGreatDoorHVGF
namespace Go.Proofs.YtgcjenfdndhhpaaGreatDoor
open Go Go.RowKit
set_option maxRecDepth 100000
set_option linter.all false
theorem ser_nd {l : List Smp} (h : serF l = 0) : (l.map (·.t)).Nodup := by
  have h1 := serInc h
  refine (List.pairwise_iff_getElem.2 (fun i j hi hj hij => ?_) : (l.map (·.t)).Pairwise (fun a b => a < b)).imp (fun h e => by omega)
  rw [List.getElem_map, List.getElem_map]
  exact h1 i j (by simpa using hj) hij
theorem firstE2 (a b : Int) : firstE [a, b] = if a ≠ 0 then a else b := by
  simp only [firstE]
  grind
end Go.Proofs.YtgcjenfdndhhpaaGreatDoor
