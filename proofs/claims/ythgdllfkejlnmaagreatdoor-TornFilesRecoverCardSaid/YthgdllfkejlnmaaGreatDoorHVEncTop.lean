/- Encode, and the reference's. Condition: the tag and the list are not huge. -/
import Derived.Test.YthgdllfkejlnmaaGreatDoorHVEncoded
import Derived.Test.YthgdllfkejlnmaaGreatDoorHVGC
namespace Go.Proofs.YthgdllfkejlnmaaGreatDoor
open Go Go.RowKit
set_option maxRecDepth 100000
set_option linter.all false
set_option maxHeartbeats 1000000
variable {H : Hp} {K : AV → Hp → Prop}
def encRes (tag : ByteArray) (l : List Smp) (o : Bool) : List UInt8 × Int := if ¬ isKey tag then ([], 5) else if serF l ≠ 0 then ([], serF l) else if l.length = 0 then ([], 8) else if 100 < l.length then ([], 12) else (blockB tag l o, 0)
theorem serF_sml {l : List Smp} (h : serF l = 0) : ∀ x ∈ l, smlS x := by
  have key : ∀ (l : List Smp) (k : Nat) (p : Smp), errGo serErr k p l = 0 → ∀ x ∈ l, smpErr x = 0 := by
    intro l
    induction l with
    | nil => simp
    | cons y t ih =>
      intro k p h x hx
      unfold errGo at h
      split at h
      · rename_i h0
        rcases List.mem_cons.1 hx with rfl | hx
        · unfold serErr at h0
          split at h0
          · omega
          · rename_i h2; simpa using h2
        · exact ih (k + 1) y h x hx
      · rename_i h0; exact absurd h h0
  unfold serF at h
  split at h
  · cases h
  · intro x hx
    have h1 := key l 0 _ h x hx
    unfold smlS
    grind [smpErr]
end Go.Proofs.YthgdllfkejlnmaaGreatDoor
