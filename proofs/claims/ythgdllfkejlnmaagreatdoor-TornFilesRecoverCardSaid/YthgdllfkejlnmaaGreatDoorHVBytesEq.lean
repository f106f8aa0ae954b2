/- bytes.Equal. No condition. -/
import Derived.Test.YthgdllfkejlnmaaGreatDoorHVBytes3
import Derived.Test.YthgdllfkejlnmaaGreatDoorHVGD
namespace Go.Proofs.YthgdllfkejlnmaaGreatDoor
open Go Go.RowKit
set_option maxRecDepth 100000
set_option linter.all false
set_option maxHeartbeats 1000000
variable {H : Hp} {K : AV → Hp → Prop}
theorem unbyte_map : ∀ l : List UInt8, unbyte (l.map encU) = some l
  | [] => rfl
  | b :: l => by
    have hb := UInt8.toNat_lt b
    simp only [List.map_cons, encU, unbyte]
    rw [if_pos (by omega), unbyte_map l]
    simp
@[go_sem] theorem unbyte_go (l : List UInt8) : unbyte (l.map encU) = some l := unbyte_map l
theorem bytesEq_a (l m : List UInt8) (hl : l.length ≤ 100000000) (hm : m.length ≤ 100000000) (hk : K (.c (.bool (decide (l = m)))) H) : ACalls Tryz.prog 13 [.c (.lst 1 (l.map encU)), .c (.lst 1 (m.map encU))] H K := by
  refine acalls Tryz.func13 rfl (by kernel_rfl) (by simp (disch := first | omega | (simp only [go_sem]; first | done | omega)) only [go_sem]) (fun hH => ?_)
  simp (disch := first | omega | (simp only [go_sem]; first | done | omega)) only [go_sem]
  refine Ret.sameE (Nat.le_refl _) hk ?_
  have e : ((⟨l.toArray⟩ : ByteArray) = ⟨m.toArray⟩) = (l = m) := by
    simp only [ByteArray.mk.injEq, eq_iff_iff]
    exact ⟨fun h => by simpa using congrArg Array.toList h, fun h => by rw [h]⟩
  simp only [e]
end Go.Proofs.YthgdllfkejlnmaaGreatDoor
