/- sample.Slice. Condition: lengths are no more than a machine holds. -/
import Derived.Test.YtebhpfhichdgaaaGreatDoorHVGF
namespace Go.Proofs.YtebhpfhichdgaaaGreatDoor
open Go Go.RowKit
set_option maxRecDepth 100000
set_option linter.all false
set_option maxHeartbeats 1000000
variable {H : Hp} {K : AV → Hp → Prop}
theorem slice_a (l : List Smp) (w : Win) (hl : l.length ≤ 1000000) (hk1 : firstE [serF l, winE w] ≠ 0 → K (.tup [.c (.lst 3 []), (.c (.int .i64 (firstE [serF l, winE w])))]) H) (hk0 : firstE [serF l, winE w] = 0 → K (.tup [.c (.lst 3 ((withinF l w).map encS)), (.c (.int .i64 0))]) H) :
    ACalls Tryz.prog 60 [.c (.lst 3 (l.map encS)), .agg (encW w)] H K := by
  refine acalls Tryz.func60 rfl (by kernel_rfl) (by simp (disch := first | omega | (simp only [go_sem]; first | done | omega)) only [go_sem]) (fun hH => ?_)
  simp (disch := first | omega | (simp only [go_sem]; first | done | omega)) only [go_sem]
  refine windowFault_a l w (by omega) ?_
  simp (disch := first | omega | (simp only [go_sem]; first | done | omega)) only [go_sem]
  by_cases h0 : firstE [serF l, winE w] = 0
  · rw [h0]
    simp (disch := first | omega | (simp only [go_sem]; first | done | omega)) only [go_sem]
    refine within_a l w hl ?_
    simp (disch := first | omega | (simp only [go_sem]; first | done | omega)) only [go_sem]
    exact Ret.drop hH (Nat.le_refl _) (by simp [AV.ok, AV.ok1, AC.ok]) (hk0 h0)
  · simp (disch := first | omega | (simp only [go_sem]; first | done | omega)) only [go_sem]
    exact Ret.nilT hH (Nat.le_refl _) rfl (hk1 h0)
end Go.Proofs.YtebhpfhichdgaaaGreatDoor
