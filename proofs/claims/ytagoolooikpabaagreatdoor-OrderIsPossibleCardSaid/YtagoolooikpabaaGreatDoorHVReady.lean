/- The packages do something: the call is run. No condition. -/
import Derived.Test.YtagoolooikpabaaGreatDoorHVStr
import Derived.Test.YtagoolooikpabaaGreatDoorHVMoment
set_option linter.all false
namespace Go.Proofs.YtagoolooikpabaaGreatDoor
open Go Go.RowKit
set_option maxRecDepth 100000
variable {H : Hp} {K : AV → Hp → Prop}
def extB : FuncId → List AV → Hp → Res := fun f args H => match Nat.beq f 262, args with
 | true, [.c (.str s), .c (.int .u8 c)] => some ((.c (.int .i64 (Lib.indexByte s.data.toList c.toNat.toUInt8))), H)
 | _, _ => none
theorem extB_ok : ExtOk Tryz.prog extB := by
 intro f args H v H' K h hk
 unfold extB at h
 split at h
 ·rename_i s c hf
  have := Nat.eq_of_beq_eq_true hf
  subst this
  injection h with h; injection h with e1 e2; subst e1; subst e2
  exact indexByteX _ ext_indexByte s c hk
 ·cases h
theorem ready_a (hk : K (.c (.bool true)) H) : ACalls Tryz.prog 31 [] H K := by
 refine ACalls.run0S specM extB specM_ok extB_ok 100 (.c (.bool true)) ?_ (by decide) (by decide) hk
 kernel_rfl
end Go.Proofs.YtagoolooikpabaaGreatDoor
