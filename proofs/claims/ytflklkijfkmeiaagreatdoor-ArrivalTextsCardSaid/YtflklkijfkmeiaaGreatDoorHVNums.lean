/- Several texts in one: Numbers as bytes: plain definitions and lemmas, no program in sight, and what follows. No condition. -/
import Derived.Test.YtflklkijfkmeiaaGreatDoorHVGA
import Derived.LoopNIn
/- Numbers as bytes: plain definitions and lemmas, no program in sight. -/
namespace Go.Proofs.YtflklkijfkmeiaaGreatDoor
open Go Go.RowKit
def most : Int := 1000000000000
end Go.Proofs.YtflklkijfkmeiaaGreatDoor
/- Bytes: numbers as bytes, and checksums. Condition: no bytes but such as fit. -/
namespace Go.Proofs.YtflklkijfkmeiaaGreatDoor
open Go Go.RowKit
set_option maxRecDepth 100000
set_option linter.all false
set_option maxHeartbeats 1000000
variable {H : Hp} {K : AV → Hp → Prop}
def encU (b : UInt8) : List AC := [.int .u8 (b.toNat : Int)]
attribute [go_sem] encU
theorem pureL_U (l : List UInt8) : pureL (l.map encU) = true := pureL_map _ (fun x => by simp [go_sem, AC.pure])
theorem appUs {i : Nat} {J : AV → Hp → Prop} (l : List UInt8) (s : ByteArray) (hi : H[i]? = some (grO 5 1 (l.map encU))) (hm : 0 < s.size) (hb : l.length + s.size ≤ 100000000000)
    (h : J (.c (grV H.length (l ++ s.data.toList))) (H.set i .dead ++ [grO 5 1 ((l ++ s.data.toList).map encU)])) : aBuiltin Tryz.prog .append #[130, 9] [.c (grV i l), .c (.str s)] H J :=
  app_grS (enc := encU) (e := 5) l s rfl (by kernel_rfl) (by kernel_rfl) (by kernel_rfl) (by kernel_rfl) (by kernel_rfl) hi hm (by omega) h
end Go.Proofs.YtflklkijfkmeiaaGreatDoor
