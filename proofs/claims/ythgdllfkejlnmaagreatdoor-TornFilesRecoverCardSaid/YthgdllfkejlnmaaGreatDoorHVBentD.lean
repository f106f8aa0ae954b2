/- Bytes that are bent. Condition: not huge. -/
import Derived.Test.YthgdllfkejlnmaaGreatDoorHVBent2
import Derived.Test.YthgdllfkejlnmaaGreatDoorHVGC
import Derived.Test.YthgdllfkejlnmaaGreatDoorHVWrapU
namespace Go.Proofs.YthgdllfkejlnmaaGreatDoor
open Go Go.RowKit
set_option maxRecDepth 100000
set_option linter.all false
set_option maxHeartbeats 2000000
variable {H : Hp} {K : AV → Hp → Prop}
theorem cloneU_a (l : List UInt8) (hl : l.length ≤ 1000000000) (hk : K (.c (clV H.length 1 (l.map encU))) (H ++ [grO 5 1 (l.map encU)])) : ACalls Tryz.prog 51 [.c (.lst 1 (l.map encU))] H K := by
  cases l with
  | nil =>
    refine acalls Tryz.func51 rfl (by kernel_rfl) (by simp (disch := first | omega | (simp only [go_sem]; first | done | omega)) only [go_sem]) (fun hH => ?_)
    simp (disch := first | omega | (simp only [go_sem]; first | done | omega)) only [go_sem]
    refine asome_i (fun b _ => ?_)
    cases b
    · simp (disch := first | omega | (simp only [go_sem]; first | done | omega)) only [go_sem]
      refine app_lst ?_
      simp (disch := first | omega | (simp only [go_sem]; first | done | omega)) only [go_sem]
      exact Ret.nil [1] (by simp) (Ret.cut hH (Nat.le_refl _) trivial (Ret.pad (Nat.le_refl _) (Ret.same (by simp) hk)))
    · simp (disch := first | omega | (simp only [go_sem]; first | done | omega)) only [go_sem]
      exact Ret.nil [1] (by simp) (Ret.pad (Nat.le_refl _) (Ret.same (by simp) hk))
  | cons x xs =>
    refine acalls Tryz.func51 rfl (by kernel_rfl) (by simp (disch := first | omega | (simp only [go_sem]; first | done | omega)) only [go_sem]) (fun hH => ?_)
    simp (disch := first | omega | (simp only [go_sem]; first | done | omega)) only [go_sem]
    refine asome_i (fun b hb => ?_)
    subst hb
    simp (disch := first | omega | (simp only [go_sem]; first | done | omega)) only [go_sem]
    refine app_lst ?_
    simp only [List.length_cons] at hl
    simp (disch := first | omega | (simp only [go_sem]; first | done | omega)) only [go_sem]
    refine Ret.pick [1] hH (Nat.le_refl _) (L := [.row 5 1 ((x :: xs).map encU) true]) rfl (by simp) (by simp [AObj.pureO, pureL, encU, AC.pure]) (v' := .c (.sl (some (H.length, 0)) (xs.length + 1))) ?_ (by simp [AV.ok, AV.ok1, AC.ok]) (by simpa [clV, grO] using hk)
    simp [AV.ren, AV.ren1, AC.ren, pickS]
end Go.Proofs.YthgdllfkejlnmaaGreatDoor
