/- Complete and Missing: the program's answers. Condition: names' sizes; at most a million. -/
import Derived.Test.YtflklkijfkmeiaaGreatDoorHVArrF
import Derived.Test.YtflklkijfkmeiaaGreatDoorHVAnswerR
namespace Go.Proofs.YtflklkijfkmeiaaGreatDoor
open Go Go.RowKit
set_option maxRecDepth 100000
set_option linter.all false
set_option maxHeartbeats 1000000
variable {H : Hp} {K : AV → Hp → Prop}
theorem arGo_all : ∀ {l : List Arr} {p : Option Arr}, arGo p l = 0 → ∀ x ∈ l, arrErr x = 0
  | [], _, _ => by simp
  | a :: t, p, h => by
    unfold arGo at h
    split at h
    · rename_i c; exact absurd h c
    · rename_i c
      have c : arS p a = 0 := by omega
      intro x hx
      rcases List.mem_cons.1 hx with rfl | hx
      · unfold arS at c
        split at c
        · exact c
        · omega
      · exact arGo_all h x hx
theorem arF_all {l : List Arr} (h : arF l = 0) : ∀ x ∈ l, arrErr x = 0 := by
  unfold arF at h
  split at h
  · omega
  · split at h
    · omega
    · rename_i c; exact arGo_all (p := none) (by omega)
end Go.Proofs.YtflklkijfkmeiaaGreatDoor
