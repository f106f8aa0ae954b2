/- Kinds of nodes and names of functions. No program in sight but for rules. -/
import Derived.Test.YtagoolooikpabaaGreatDoorHVQrsF
set_option linter.all false
namespace Go.Proofs.YtagoolooikpabaaGreatDoor
open Go Go.RowKit
set_option maxRecDepth 100000
set_option maxHeartbeats 4000000
@[go_sem] theorem kd_number_1 : decide ((⟨#[110, 117, 109, 98, 101, 114]⟩ : ByteArray) = ⟨#[116, 97, 103]⟩) = false := (by decide)
@[go_sem] theorem kd_minus_1 : decide ((⟨#[109, 105, 110, 117, 115]⟩ : ByteArray) = ⟨#[116, 97, 103]⟩) = false := (by decide)
theorem fn_kind {f : List UInt8} (h : 0 < fnN f) : decide (tB f = ⟨#[110, 117, 109, 98, 101, 114]⟩) = false ∧ decide (tB f = ⟨#[116, 97, 103]⟩) = false ∧ decide (tB f = ⟨#[109, 105, 110, 117, 115]⟩) = false := by
 have : f = wAbs ∨ f = wGd ∨ f = wMin ∨ f = wMax ∨ f = wIf := by
  unfold fnN at h
  repeat' split at h
  all_goals first | omega | (rename_i g; grind)
 rcases this with rfl | rfl | rfl | rfl | rfl <;> exact ⟨by decide, by decide, by decide⟩
theorem op_kind {c : UInt8} (h : c ∈ ops6) : (decide (tB [c] = ⟨#[110, 117, 109, 98, 101, 114]⟩) = false ∧ decide (tB [c] = ⟨#[116, 97, 103]⟩) = false ∧ decide (tB [c] = ⟨#[109, 105, 110, 117, 115]⟩) = false) ∧ fnN [c] = 0 := by
 simp only [ops6, List.mem_cons, List.not_mem_nil, or_false] at h
 rcases h with rfl | rfl | rfl | rfl | rfl | rfl <;> exact ⟨⟨by decide, by decide, by decide⟩, by decide⟩
end Go.Proofs.YtagoolooikpabaaGreatDoor
