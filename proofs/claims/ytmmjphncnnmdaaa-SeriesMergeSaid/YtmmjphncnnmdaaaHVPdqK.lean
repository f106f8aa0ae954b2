/- Series merged by the code. -/
import Derived.Test.YtmmjphncnnmdaaaHVPdqJ
import Derived.Test.YtmmjphncnnmdaaaHVGA
namespace Go.Proofs.Ytmmjphncnnmdaaa
open Go Go.RowKit
set_option maxRecDepth 100000
set_option linter.all false
set_option maxHeartbeats 1000000
variable {H : Hp} {K : AV → Hp → Prop}
theorem merge_a (a b : List Smp) (hl : a.length + b.length ≤ 14) (hk1 : firstE [serF a, serF b] ≠ 0 → K (.tup [.c (.lst 3 []), (.c (.int .i64 (firstE [serF a, serF b])))]) H) (hk0 : firstE [serF a, serF b] = 0 → K (.tup [.c (.lst 3 ((mergedG a b).map encS)), (.c (.int .i64 0))]) H) :
    ACalls Try.prog 23 [.c (.lst 3 (a.map encS)), .c (.lst 3 (b.map encS))] H K := by
  have hlen := pdqG_len swoM (a ++ b)
  rw [List.length_append] at hlen
  have hcl := compactG_le sameT (pdqG ltM (a ++ b))
  refine acalls Try.func23 rfl (by kernel_rfl) (by simp (disch := first | omega | (simp only [go_sem]; first | done | omega)) only [go_sem]) (fun hH => ?_)
  simp (disch := first | omega | (simp only [go_sem]; first | done | omega)) only [go_sem]
  refine checkSeries_a a (by omega) ?_
  simp (disch := first | omega | (simp only [go_sem]; first | done | omega)) only [go_sem]
  refine checkSeries_a b (by omega) ?_
  simp (disch := first | omega | (simp only [go_sem]; first | done | omega)) only [go_sem]
  refine ACalls.lit (i := H.length) (by first | exact at0 (by simp) | exact at1 (by simp) | exact at2 (by simp) | exact at3 (by simp) | exact at4 (by simp) | exact at5 (by simp) | exact atG 6 (by simp) rfl | exact atG 7 (by simp) rfl | exact atG 8 (by simp) rfl | exact atG 9 (by simp) rfl | exact atG 10 (by simp) rfl | assumption) (by simp [pureL, AC.pure]) (args' := [.c (.lst 1 ([serF a, serF b].map encI))]) (by simp [AV.frz1, AC.frz, encI]) (first_a [serF a, serF b] (by simp) ?_)
  simp (disch := first | omega | (simp only [go_sem]; first | done | omega)) only [go_sem]
  by_cases h0 : firstE [serF a, serF b] = 0
  · rw [h0]
    simp (disch := first | omega | (simp only [go_sem]; first | done | omega)) only [go_sem]
    refine ACalls.lit (i := H.length + 1) (by first | exact at0 (by simp) | exact at1 (by simp) | exact at2 (by simp) | exact at3 (by simp) | exact at4 (by simp) | exact at5 (by simp) | exact atG 6 (by simp) rfl | exact atG 7 (by simp) rfl | exact atG 8 (by simp) rfl | exact atG 9 (by simp) rfl | exact atG 10 (by simp) rfl | assumption) (by simp [pureL, AC.pure]) (args' := [.c (.lst 1 [[.lst 3 (a.map encS)], [.lst 3 (b.map encS)]])]) (by simp [AV.frz1, AC.frz]) (concatS_a a b (by omega) (by omega) ?_)
    simp (disch := first | omega | (simp only [go_sem]; first | done | omega)) only [go_sem]
    refine sortGrS_a swoM cmpM (a ++ b) (by first | exact at0 (by simp) | exact at1 (by simp) | exact at2 (by simp) | exact at3 (by simp) | exact at4 (by simp) | exact at5 (by simp) | exact atG 6 (by simp) rfl | exact atG 7 (by simp) rfl | exact atG 8 (by simp) rfl | exact atG 9 (by simp) rfl | exact atG 10 (by simp) rfl | assumption) (by rw [List.length_append]; exact hl) (fun _ _ => trivial) ?_
    simp (disch := first | omega | (simp only [go_sem]; first | done | omega)) only [go_sem]
    rw [grV_len _ (a ++ b) (pdqG ltM (a ++ b)) (by rw [hlen, List.length_append])]
    refine compactGrS_a eqM (pdqG ltM (a ++ b)) (by first | exact at0 (by simp) | exact at1 (by simp) | exact at2 (by simp) | exact at3 (by simp) | exact at4 (by simp) | exact at5 (by simp) | exact atG 6 (by simp) rfl | exact atG 7 (by simp) rfl | exact atG 8 (by simp) rfl | exact atG 9 (by simp) rfl | exact atG 10 (by simp) rfl | assumption) (by omega) ?_
    simp (disch := first | omega | (simp only [go_sem]; first | done | omega)) only [go_sem]
    exact Ret.drop hH (Nat.le_refl _) (by simp [AV.ok, AV.ok1, AC.ok]) (hk0 h0)
  · simp (disch := first | omega | (simp only [go_sem]; first | done | omega)) only [go_sem]
    exact Ret.nilT hH (Nat.le_refl _) rfl (hk1 h0)
end Go.Proofs.Ytmmjphncnnmdaaa
