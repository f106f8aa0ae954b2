/- Numbers as rows. Condition: there are not too many, and they are small. -/
import Derived.Shelf.Sort.Plain
import Derived.Test.YtebhpfhichdgaaaGreatDoorHVGA
import Derived.Test.YtebhpfhichdgaaaGreatDoorHVGK
import Derived.Test.YtebhpfhichdgaaaGreatDoorHVAnswerR
namespace Go.Proofs.YtebhpfhichdgaaaGreatDoor
open Go Go.RowKit
set_option maxRecDepth 100000
set_option linter.all false
set_option maxHeartbeats 1000000
variable {H : Hp} {K : AV → Hp → Prop}
theorem aIf_valS {c : Prop} {v v' : AV} {J : AV → Hp → Prop} (hc : c) (hv : v = v') (h : J v' H) : aIf c v H J := hv ▸ ⟨hc, h⟩
theorem len640_a (hk : K (.c (.int .i64 0)) H) : ACalls Tryz.prog 271 [.c (.int .u64 0)] H K := by
  refine acalls Tryz.func271 rfl (by kernel_rfl) (by simp (disch := first | omega | (simp only [go_sem]; first | done | omega)) only [go_sem]) (fun hH => ?_)
  simp (disch := first | omega | (simp only [go_sem]; first | done | omega)) only [go_sem]
  refine aIf_valS (v' := .c (.int .u8 0)) (by decide +kernel) (congrArg (fun z => AV.c (.int .u8 z)) (by decide +kernel : _ = (0 : Int))) ?_
  simp (disch := first | omega | (simp only [go_sem]; first | done | omega)) only [go_sem]
  exact Ret.same (Nat.le_refl _) hk
theorem len0_a (hk : K (.c (.int .i64 0)) H) : ACalls Tryz.prog 199 [.c (.int .u64 0)] H K := by
  refine acalls Tryz.func199 rfl (by kernel_rfl) (by simp (disch := first | omega | (simp only [go_sem]; first | done | omega)) only [go_sem]) (fun hH => ?_)
  simp (disch := first | omega | (simp only [go_sem]; first | done | omega)) only [go_sem]
  refine len640_a ?_
  simp (disch := first | omega | (simp only [go_sem]; first | done | omega)) only [go_sem]
  exact Ret.same (Nat.le_refl _) hk
end Go.Proofs.YtebhpfhichdgaaaGreatDoor
