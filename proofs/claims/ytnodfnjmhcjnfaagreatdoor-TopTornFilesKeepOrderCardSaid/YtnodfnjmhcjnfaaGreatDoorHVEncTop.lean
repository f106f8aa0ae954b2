/- Several texts in one: Encode, and the reference's, and what follows. No condition. -/
import Derived.Test.YtnodfnjmhcjnfaaGreatDoorHVEncode
import Derived.Test.YtnodfnjmhcjnfaaGreatDoorHVGA
import Derived.Test.YtnodfnjmhcjnfaaGreatDoorHVBytes3
import Derived.Test.YtnodfnjmhcjnfaaGreatDoorHVStr
/- Encode, and the reference's. Condition: the tag and the list are not huge. -/
namespace Go.Proofs.YtnodfnjmhcjnfaaGreatDoor
open Go Go.RowKit
set_option maxRecDepth 100000
set_option linter.all false
set_option maxHeartbeats 1000000
variable {H : Hp} {K : AV → Hp → Prop}
theorem serF_sml {l : List Smp} (h : serF l = 0) : ∀ x ∈ l, smlS x := by
  have key : ∀ (l : List Smp) (k : Nat) (p : Smp), errGo serErr k p l = 0 → ∀ x ∈ l, smpErr x = 0 := by
    intro l
    induction l with
    | nil => simp
    | cons y t ih =>
      intro k p h x hx
      unfold errGo at h
      split at h
      · rename_i h0
        rcases List.mem_cons.1 hx with rfl | hx
        · unfold serErr at h0
          split at h0
          · omega
          · rename_i h2; simpa using h2
        · exact ih (k + 1) y h x hx
      · rename_i h0; exact absurd h h0
  unfold serF at h
  split at h
  · cases h
  · intro x hx
    have h1 := key l 0 _ h x hx
    unfold smlS
    grind [smpErr]
end Go.Proofs.YtnodfnjmhcjnfaaGreatDoor
/- bytes.Equal. No condition. -/
namespace Go.Proofs.YtnodfnjmhcjnfaaGreatDoor
open Go Go.RowKit
set_option maxRecDepth 100000
set_option linter.all false
set_option maxHeartbeats 1000000
variable {H : Hp} {K : AV → Hp → Prop}
theorem unbyte_map : ∀ l : List UInt8, unbyte (l.map encU) = some l
  | [] => rfl
  | b :: l => by
    have hb := UInt8.toNat_lt b
    simp only [List.map_cons, encU, unbyte]
    rw [if_pos (by omega), unbyte_map l]
    simp
@[go_sem] theorem unbyte_go (l : List UInt8) : unbyte (l.map encU) = some l := unbyte_map l
end Go.Proofs.YtnodfnjmhcjnfaaGreatDoor
