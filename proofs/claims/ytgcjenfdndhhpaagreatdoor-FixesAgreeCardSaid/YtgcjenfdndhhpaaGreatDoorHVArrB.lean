/- Arrivals: the program's order; too many nodes. No condition. -/
import Derived.Test.YtgcjenfdndhhpaaGreatDoorHVArrA
import Derived.Test.YtgcjenfdndhhpaaGreatDoorHVMoment
import Derived.Test.YtgcjenfdndhhpaaGreatDoorHCoreDrawS
namespace Go.Proofs.YtgcjenfdndhhpaaGreatDoor
open Go Go.RowKit
set_option maxRecDepth 100000
set_option linter.all false
set_option maxHeartbeats 1000000
variable {H : Hp} {K : AV → Hp → Prop}
def domA (f : FuncId) : Bool := Nat.beq f 128 || Nat.beq f 129
def spA (f : FuncId) (args : List AV) : Option AV := match Nat.beq f 128, args with
  | true, [.c (.int .i64 x), .c (.int .i64 y)] => some (.c (.int .i64 (cmpI x y)))
  | false, [.c (.str x), .c (.str y)] => some (.c (.int .i64 (cmpS x y)))
  | _, _ => none
@[go_sem] theorem domA_y : domA 128 = true := (rfl)
@[go_sem] theorem domA_s : domA 129 = true := (rfl)
@[go_sem] theorem domA_n : domA 127 = false := (rfl)
@[go_sem] theorem spA_go (x y : Int) : spA 128 [(.c (.int .i64 x)), (.c (.int .i64 y))] = some (.c (.int .i64 (cmpI x y))) := (rfl)
@[go_sem] theorem spA_str (x y : ByteArray) : spA 129 [(.c (.str x)), (.c (.str y))] = some (.c (.int .i64 (cmpS x y))) := (rfl)
theorem specA_ok : SpecOk Tryz.prog domA spA := by
  intro f args v H K hd hs hk
  unfold domA at hd
  rw [Bool.or_eq_true] at hd
  unfold spA at hs
  rcases hd with hd | hd
  · have hf := Nat.eq_of_beq_eq_true hd
    subst hf
    split at hs
    · rename_i x y h
      injection hs with hs
      subst hs
      exact ⟨by kernel_rfl, rfl, compare_a x y hk⟩
    · rename_i h; cases h
    · cases hs
  · have hf := Nat.eq_of_beq_eq_true hd
    subst hf
    split at hs
    · rename_i h; cases h
    · rename_i x y h
      injection hs with hs
      subst hs
      exact ⟨by kernel_rfl, rfl, cmpStr_a x y hk⟩
    · cases hs
@[go_sem] theorem mapK_sb : mapK Tryz.prog 274 = some 9 := (by kernel_rfl)
@[go_sem] theorem mapZ_sb : (mapE Tryz.prog 274).bind (zeroA Tryz.prog) = some (.c (.bool false)) := (by kernel_rfl)
end Go.Proofs.YtgcjenfdndhhpaaGreatDoor
