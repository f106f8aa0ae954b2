/- sample.Read. -/
import Derived.Test.YtebhpfhichdgaaaGreatDoorHVTxtE
import Derived.Test.YtebhpfhichdgaaaGreatDoorHVFrac
import Derived.Test.YtebhpfhichdgaaaGreatDoorHVGB
import Derived.Test.YtebhpfhichdgaaaGreatDoorHVGA
namespace Go.Proofs.YtebhpfhichdgaaaGreatDoor
open Go Go.RowKit
set_option maxRecDepth 100000
set_option linter.all false
set_option maxHeartbeats 2000000
variable {H : Hp} {K : AV → Hp → Prop}
theorem three {ws : List (List UInt8)} (h : ws.length = 3) : ∃ a b c, ws = [a, b, c] := by
  match ws, h with
  | [a, b, c], _ => exact ⟨a, b, c, rfl⟩
theorem splitL_mem : ∀ (c : UInt8) (l w : List UInt8), w ∈ splitL c l → w.length ≤ l.length
  | c, [], w, h => by
    have : w = [] := by simpa [splitL] using h
    rw [this]; simp
  | c, x :: t, w, h => by
    rw [splitL_cons] at h
    have h0 := splitL_ne c t
    have ih := splitL_mem c t
    cases hs : splitL c t with
    | nil => exact absurd hs h0
    | cons y r =>
      rw [hs] at h ih
      simp only [List.headD_cons, List.tail_cons] at h
      split at h
      · rcases List.mem_cons.1 h with rfl | h
        · simp
        · have := ih w h; rw [List.length_cons]; omega
      · rcases List.mem_cons.1 h with rfl | h
        · have := ih y (by simp); simp only [List.length_cons]; omega
        · have := ih w (by simp [h]); rw [List.length_cons]; omega
end Go.Proofs.YtebhpfhichdgaaaGreatDoor
