/- Bytes: the reference's reading of a number. Condition: no bytes but such as fit. -/
import Derived.Test.YtnodfnjmhcjnfaaGreatDoorHVBytes2
namespace Go.Proofs.YtnodfnjmhcjnfaaGreatDoor
open Go Go.RowKit
set_option maxRecDepth 100000
set_option linter.all false
set_option maxHeartbeats 1000000
variable {H : Hp} {K : AV → Hp → Prop}
/-! ### what a block's bytes are -/
theorem unvarint_le {l : List UInt8} {p x : Nat} {n : Int} (h : uvR l p = some (n, x)) : p + 1 ≤ x ∧ (p ≤ l.length → x ≤ l.length) ∧ okN n := by
  unfold uvR at h
  obtain ⟨⟨a, b⟩, h1, h2⟩ := Option.map_eq_some_iff.1 h
  have h3 := unv_le h1
  simp only [Prod.mk.injEq] at h2
  obtain ⟨rfl, rfl⟩ := h2
  rw [List.length_drop] at h3
  exact ⟨by omega, fun _ => by omega, h3.2.2⟩
end Go.Proofs.YtnodfnjmhcjnfaaGreatDoor
