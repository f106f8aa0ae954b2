/- slices.Delete of bytes, in the heap's words. No condition. -/
import Derived.Test.YthgdllfkejlnmaaGreatDoorHVDelete
import Derived.Test.YthgdllfkejlnmaaGreatDoorHVBent1
namespace Go.Proofs.YthgdllfkejlnmaaGreatDoor
open Go Go.RowKit Go.Shelf Go.Lib Go.Sort
set_option maxRecDepth 100000
set_option linter.all false
set_option maxHeartbeats 1000000
variable {H : Hp} {K : AV → Hp → Prop} {B : Nat → Prop} {w0 w : World} {ι : En}
def delL (l : List UInt8) (n k : Nat) : List UInt8 := l.take k ++ (l.drop (k + 1)).take (n - (k + 1)) ++ [0]
theorem put_row {w : World} {b : Nat} {cur : Array Value} {d : Array UInt8} {q : Nat} (h : w.heap[b]? = some (.cells cur 5 (0, 0))) :
    ∃ cur', (putRow bU (Sort.ahead w q) b 0 d).heap[b]? = some (.cells cur' 5 (0, 0)) ∧ cur'.size = cur.size ∧ ∀ (j : Nat) (y : UInt8), d[j]? = some y → j < cur.size → cur'[j]? = some (bU y) := by
  refine ⟨putCells bU 0 d cur, ?_, by simp [putCells], fun j y hj hlt => ?_⟩
  · show (Array.modify _ _ _)[b]? = _
    rw [Array.getElem?_modify, if_pos rfl]
    show Option.map _ w.heap[b]? = _
    rw [h]; rfl
  · have hjd : j < d.size := (Array.getElem?_eq_some_iff.1 hj).1
    have e1 : d[j] = y := by rw [Array.getElem?_eq_getElem hjd] at hj; simpa using hj
    simp [putCells, hlt, hjd, e1]
theorem put_grown {w : World} {b q : Nat} {d : Array UInt8} : w.grownBy (putRow bU (Sort.ahead w q) b 0 d) (some b) := by
  refine ⟨rfl, rfl, rfl, ?_, fun k hk hne => ?_⟩
  · show w.heap.size ≤ (Array.modify _ _ _).size
    rw [Array.size_modify]; exact Nat.le_refl _
  · show (Array.modify w.heap b _)[k]? = _
    rw [Array.getElem?_modify, if_neg (fun e => hne (by rw [e]))]
end Go.Proofs.YthgdllfkejlnmaaGreatDoor
