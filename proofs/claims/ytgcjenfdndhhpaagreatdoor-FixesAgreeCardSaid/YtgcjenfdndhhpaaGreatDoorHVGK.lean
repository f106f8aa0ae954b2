/- Several texts in one: What a buffer does: no program in sight, and what follows. No condition. -/
import Derived.Test.YtgcjenfdndhhpaaGreatDoorHVGB
import Derived.Test.YtgcjenfdndhhpaaGreatDoorHVGA
import Derived.Test.YtgcjenfdndhhpaaGreatDoorHVAnswerR
/- What a buffer does: no program in sight. No condition. -/
namespace Go.Proofs.YtgcjenfdndhhpaaGreatDoor
open Go Go.RowKit
set_option maxRecDepth 100000
set_option linter.all false
structure Pk where
  n : Int
  tag : ByteArray
  s : Smp
structure Hd where
  p : Pk
  sent : Bool
/-! ### what stays -/
/-! ### rows -/
end Go.Proofs.YtgcjenfdndhhpaaGreatDoor
/- A buffer's node in memory. No condition. -/
namespace Go.Proofs.YtgcjenfdndhhpaaGreatDoor
open Go Go.RowKit
set_option maxRecDepth 100000
set_option linter.all false
set_option maxHeartbeats 2000000
variable {H : Hp} {K : AV → Hp → Prop}
theorem appI {i q ty : Nat} {own : Bool} {J : AV → Hp → Prop} (l : List Int) (x : Int) (l2 : List Int) (e : l2 = l ++ [x]) (hi : H[i]? = some (grO 3 1 (l.map encI))) (hj : H[q]? = some (.row ty 1 [encI x] own)) (hb : l.length ≤ 1000000000)
    (h : J (.c (grV H.length l2)) (H.set i .dead ++ [grO 3 1 (l2.map encI)])) : aBuiltin Tryz.prog .append #[22, 22] [.c (grV i l), .c (.sl (some (q, 0)) 1)] H J := by
  subst e
  exact app_grR (enc := encI) (e := 3) (sz := 1) (bs := 8) (z := [.int .i64 0]) l [x] (by kernel_rfl) (by kernel_rfl) (by kernel_rfl) (by kernel_rfl) hi (by rw [hj]; rfl) (by simp) rfl (by decide) (by simp; omega) (by simp; omega) h
end Go.Proofs.YtgcjenfdndhhpaaGreatDoor
/- Packets acked, and packets sent. No condition. -/
namespace Go.Proofs.YtgcjenfdndhhpaaGreatDoor
open Go Go.RowKit
set_option maxRecDepth 100000
set_option linter.all false
set_option maxHeartbeats 2000000
variable {H : Hp} {K : AV → Hp → Prop}
@[go_sem] theorem mapK_ib : mapK Tryz.prog 172 = some 3 := (by kernel_rfl)
@[go_sem] theorem mapZ_ib : (mapE Tryz.prog 172).bind (zeroA Tryz.prog) = some (.c (.bool false)) := (by kernel_rfl)
end Go.Proofs.YtgcjenfdndhhpaaGreatDoor
