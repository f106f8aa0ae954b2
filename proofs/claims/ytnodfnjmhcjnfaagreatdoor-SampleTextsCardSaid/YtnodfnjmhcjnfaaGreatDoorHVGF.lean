/- Several texts in one: Fractions in lowest terms, and what follows. No condition. -/
import Derived.Test.YtnodfnjmhcjnfaaGreatDoorHVGA
import Derived.LoopNIn
import Derived.Test.YtnodfnjmhcjnfaaGreatDoorHVSmp
/- Fractions in lowest terms. Condition: numbers as they are in memory. -/
namespace Go.Proofs.YtnodfnjmhcjnfaaGreatDoor
open Go Go.RowKit
set_option maxRecDepth 100000
set_option linter.all false
set_option maxHeartbeats 1000000
variable {H : Hp} {K : AV → Hp → Prop}
end Go.Proofs.YtnodfnjmhcjnfaaGreatDoor
/- Values scaled: the program. Condition: numbers as they are in memory. -/
namespace Go.Proofs.YtnodfnjmhcjnfaaGreatDoor
open Go Go.RowKit
set_option maxRecDepth 100000
set_option linter.all false
set_option maxHeartbeats 1000000
variable {H : Hp} {K : AV → Hp → Prop}
theorem smp_ok' {x : Smp} (h : smpErr x = 0) : (0 ≤ x.t ∧ x.t ≤ 345686399999) ∧ (0 ≤ x.q ∧ x.q ≤ 2) ∧ (-1000000 ≤ x.v ∧ x.v ≤ 1000000) ∧ (x.q = 2 → x.v = 0) := by
  grind [smpErr]
theorem errGo_all' {α : Type} (f : Nat → α → α → Int) : ∀ (l : List α) (k : Nat) (p : α), errGo f k p l = 0 → ∀ x ∈ l, ∃ j q, f j q x = 0
  | [], _, _, _ => by simp
  | y :: t, k, p, h => by
    intro x hx
    unfold errGo at h
    split at h
    · rename_i h0
      rcases List.mem_cons.1 hx with rfl | hx
      · exact ⟨_, _, h0⟩
      · exact errGo_all' f t _ _ h x hx
    · rename_i h0; exact absurd h h0
theorem serF_ok' {l : List Smp} (h : serF l = 0) : l.length ≤ 5000 ∧ ∀ x ∈ l, smpErr x = 0 := by
  unfold serF at h
  split at h
  · cases h
  · refine ⟨by omega, fun x hx => ?_⟩
    obtain ⟨j, q, h1⟩ := errGo_all' serErr l 0 _ h x hx
    unfold serErr at h1
    split at h1
    · rename_i h2; exact absurd h1 h2
    · rename_i h2; exact Classical.byContradiction fun h3 => h2 h3
end Go.Proofs.YtnodfnjmhcjnfaaGreatDoor
