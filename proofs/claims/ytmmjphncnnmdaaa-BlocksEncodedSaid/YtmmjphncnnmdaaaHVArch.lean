/- bytes.Equal, and package block's own number. No condition. -/
import Derived.Test.YtmmjphncnnmdaaaHVEncTop
import Derived.Test.YtmmjphncnnmdaaaHVDecode
namespace Go.Proofs.Ytmmjphncnnmdaaa
open Go Go.RowKit
set_option maxRecDepth 100000
set_option linter.all false
set_option maxHeartbeats 1000000
variable {H : Hp} {K : AV → Hp → Prop}
theorem bytesEq_a (l m : List UInt8) (hl : l.length ≤ 100000000) (hm : m.length ≤ 100000000) (hk : K (.c (.bool (decide (l = m)))) H) : ACalls Try.prog 11 [.c (.lst 1 (l.map encU)), .c (.lst 1 (m.map encU))] H K := by
  refine acalls Try.func11 rfl (by kernel_rfl) (by simp (disch := first | omega | (simp only [go_sem]; first | done | omega)) only [go_sem]) (fun hH => ?_)
  simp (disch := first | omega | (simp only [go_sem]; first | done | omega)) only [go_sem]
  refine Ret.sameE (Nat.le_refl _) hk ?_
  have e : ((⟨l.toArray⟩ : ByteArray) = ⟨m.toArray⟩) = (l = m) := by
    simp only [ByteArray.mk.injEq, eq_iff_iff]
    exact ⟨fun h => by simpa using congrArg Array.toList h, fun h => by rw [h]⟩
  simp only [e]
theorem varint64_a (hk : K (.tup [.c (.lst 1 (([128, 1] : List UInt8).map encU)), (.c (.int .i64 0))]) H) : ACalls Try.prog 50 [(.c (.int .i64 64))] H K := by
  refine acalls Try.func50 rfl (by kernel_rfl) (by simp (disch := first | omega | (simp only [go_sem]; first | done | omega)) only [go_sem]) (fun hH => ?_)
  simp (disch := first | omega | (simp only [go_sem]; first | done | omega)) only [go_sem]
  refine out_a _ _ _ _ _ ?_
  simp (disch := first | omega | (simp only [go_sem]; first | done | omega)) only [go_sem, or_self, decide_false]
  refine varint_a 64 (by omega) (by omega) ?_
  rw [show vb (zig 64) = [128, 1] by rw [show zig 64 = 128 by decide, vb_ge (by omega), vb_lt (by omega)]; decide]
  simp (disch := first | omega | (simp only [go_sem]; first | done | omega)) only [go_sem]
  exact Ret.same (Nat.le_refl _) hk
theorem archived_a (hk : K (.c (.bool true)) H) : ACalls Try.prog 20 [] H K := by
  refine acalls Try.func20 rfl (by kernel_rfl) (by simp (disch := first | omega | (simp only [go_sem]; first | done | omega)) only [go_sem]) (fun hH => ?_)
  simp (disch := first | omega | (simp only [go_sem]; first | done | omega)) only [go_sem]
  refine varint64_a ?_
  simp (disch := first | omega | (simp only [go_sem]; first | done | omega)) only [go_sem]
  refine ACalls.lit (i := H.length) (ty := 5) (sz := 1) (els := ([128, 1] : List UInt8).map encU) (own := true) (by simp [encU]) (pureL_U _) (args' := [.c (.lst 1 (([128, 1] : List UInt8).map encU)), .c (.lst 1 (([128, 1] : List UInt8).map encU))]) (by simp [AV.frz1, AC.frz, encU]) ?_
  refine bytesEq_a _ _ (by simp) (by simp) ?_
  simp (disch := first | omega | (simp only [go_sem]; first | done | omega)) only [go_sem]
  exact Ret.drop hH (Nat.le_refl _) trivial hk
end Go.Proofs.Ytmmjphncnnmdaaa
