/- Several texts in one: Numbers as bytes: plain definitions and lemmas, no program in sight, and what follows. No condition. -/
import Derived.Test.YtagoolooikpabaaGreatDoorHTypes
set_option linter.all false
namespace Go.Proofs.YtagoolooikpabaaGreatDoor
open Go Go.RowKit
def vb (z : Nat) : List UInt8 := if z < 128 then [UInt8.ofNat z] else UInt8.ofNat (z % 128 + 128) :: vb (z / 128)
termination_by z
decreasing_by omega
def most : Int := 1000000000000
end Go.Proofs.YtagoolooikpabaaGreatDoor
namespace Go.Proofs.YtagoolooikpabaaGreatDoor
open Go Go.RowKit
set_option maxRecDepth 100000
set_option maxHeartbeats 1000000
variable {H : Hp} {K : AV → Hp → Prop}
def encU (b : UInt8) : List AC := [.int .u8 (b.toNat : Int)]
attribute [go_sem] encU
theorem grV_map {α β : Type} (enc : α → β) (i : Nat) (l : List α) : grV i (l.map enc) = grV i l := map_grV enc i l
theorem pureL_U (l : List UInt8) : pureL (l.map encU) = true := pureL_map _ pUr
theorem appUr {i j k m : Nat} {J : AV → Hp → Prop} (l mm : List UInt8) (hi : H[i]? = some (grO 5 1 (l.map encU))) (hx : srcO H[j]? 1 k m = some (mm.map encU)) (hm : mm ≠ []) (hb : l.length + mm.length ≤ 100000000000)
  (h : J (.c (grV H.length (l ++ mm))) (H.set i .dead ++ [grO 5 1 ((l ++ mm).map encU)])) : aBuiltin Tryz.prog .append #[130, 130] [.c (grV i l), .c (.sl (some (j, k)) m)] H J :=
 app_grR (enc := encU) (e := 5) (sz := 1) (bs := 1) (z := [.int .u8 0]) l mm kRf kRf kRf kRf hi hx hm rfl (by decide) oMg oMg h
theorem appUs {i : Nat} {J : AV → Hp → Prop} (l : List UInt8) (s : ByteArray) (hi : H[i]? = some (grO 5 1 (l.map encU))) (hm : 0 < s.size) (hb : l.length + s.size ≤ 100000000000)
  (h : J (.c (grV H.length (l ++ s.data.toList))) (H.set i .dead ++ [grO 5 1 ((l ++ s.data.toList).map encU)])) : aBuiltin Tryz.prog .append #[130, 9] [.c (grV i l), .c (.str s)] H J :=
 app_grS (enc := encU) (e := 5) l s rfl kRf kRf kRf kRf kRf hi hm oMg h
end Go.Proofs.YtagoolooikpabaaGreatDoor
