/- Several texts in one: A tree's cells are five, and what follows. No condition. -/
import Derived.Test.YtagoolooikpabaaGreatDoorHVQrsB
set_option linter.all false
namespace Go.Proofs.YtagoolooikpabaaGreatDoor
open Go Go.RowKit
theorem encT_l (x : Ex) : (encT x).length = 5 := (encT_ok x).1
theorem encT_t (x : Ex) : (encT x).take 5 = encT x := List.take_of_length_le (by rw [encT_l]; exact Nat.le_refl _)
end Go.Proofs.YtagoolooikpabaaGreatDoor
namespace Go.Proofs.YtagoolooikpabaaGreatDoor
open Go Go.RowKit
set_option maxRecDepth 100000
set_option maxHeartbeats 4000000
@[go_sem] theorem kd_number_1 : decide ((⟨#[110, 117, 109, 98, 101, 114]⟩ : ByteArray) = ⟨#[116, 97, 103]⟩) = false := (by decide)
@[go_sem] theorem kd_tag_0 : decide ((⟨#[116, 97, 103]⟩ : ByteArray) = ⟨#[110, 117, 109, 98, 101, 114]⟩) = false := (by decide)
@[go_sem] theorem kd_minus_0 : decide ((⟨#[109, 105, 110, 117, 115]⟩ : ByteArray) = ⟨#[110, 117, 109, 98, 101, 114]⟩) = false := (by decide)
@[go_sem] theorem kd_minus_1 : decide ((⟨#[109, 105, 110, 117, 115]⟩ : ByteArray) = ⟨#[116, 97, 103]⟩) = false := (by decide)
@[go_sem] theorem kd_c43_5 : decide ((tB [43] : ByteArray) = ⟨#[43]⟩) = true := (by decide)
@[go_sem] theorem kd_c45_5 : decide ((tB [45] : ByteArray) = ⟨#[43]⟩) = false := (by decide)
@[go_sem] theorem kd_c45_6 : decide ((tB [45] : ByteArray) = ⟨#[45]⟩) = true := (by decide)
@[go_sem] theorem kd_c42_5 : decide ((tB [42] : ByteArray) = ⟨#[43]⟩) = false := (by decide)
@[go_sem] theorem kd_c42_6 : decide ((tB [42] : ByteArray) = ⟨#[45]⟩) = false := (by decide)
@[go_sem] theorem kd_c42_7 : decide ((tB [42] : ByteArray) = ⟨#[42]⟩) = true := (by decide)
@[go_sem] theorem kd_c47_5 : decide ((tB [47] : ByteArray) = ⟨#[43]⟩) = false := (by decide)
@[go_sem] theorem kd_c47_6 : decide ((tB [47] : ByteArray) = ⟨#[45]⟩) = false := (by decide)
@[go_sem] theorem kd_c47_7 : decide ((tB [47] : ByteArray) = ⟨#[42]⟩) = false := (by decide)
@[go_sem] theorem kd_c47_8 : decide ((tB [47] : ByteArray) = ⟨#[47]⟩) = true := (by decide)
@[go_sem] theorem kd_c60_3 : decide ((tB [60] : ByteArray) = ⟨#[60]⟩) = true := (by decide)
@[go_sem] theorem kd_c60_5 : decide ((tB [60] : ByteArray) = ⟨#[43]⟩) = false := (by decide)
@[go_sem] theorem kd_c60_6 : decide ((tB [60] : ByteArray) = ⟨#[45]⟩) = false := (by decide)
@[go_sem] theorem kd_c60_7 : decide ((tB [60] : ByteArray) = ⟨#[42]⟩) = false := (by decide)
@[go_sem] theorem kd_c60_8 : decide ((tB [60] : ByteArray) = ⟨#[47]⟩) = false := (by decide)
@[go_sem] theorem kd_c61_3 : decide ((tB [61] : ByteArray) = ⟨#[60]⟩) = false := (by decide)
@[go_sem] theorem kd_c61_4 : decide ((tB [61] : ByteArray) = ⟨#[61]⟩) = true := (by decide)
@[go_sem] theorem kd_c61_5 : decide ((tB [61] : ByteArray) = ⟨#[43]⟩) = false := (by decide)
@[go_sem] theorem kd_c61_6 : decide ((tB [61] : ByteArray) = ⟨#[45]⟩) = false := (by decide)
@[go_sem] theorem kd_c61_7 : decide ((tB [61] : ByteArray) = ⟨#[42]⟩) = false := (by decide)
@[go_sem] theorem kd_c61_8 : decide ((tB [61] : ByteArray) = ⟨#[47]⟩) = false := (by decide)
@[go_sem] theorem kd_wAbs_0 : decide ((tB wAbs : ByteArray) = ⟨#[110, 117, 109, 98, 101, 114]⟩) = false := (by decide)
@[go_sem] theorem kd_wAbs_1 : decide ((tB wAbs : ByteArray) = ⟨#[116, 97, 103]⟩) = false := (by decide)
@[go_sem] theorem kd_wAbs_2 : decide ((tB wAbs : ByteArray) = ⟨#[109, 105, 110, 117, 115]⟩) = false := (by decide)
@[go_sem] theorem kd_wGd_0 : decide ((tB wGd : ByteArray) = ⟨#[110, 117, 109, 98, 101, 114]⟩) = false := (by decide)
@[go_sem] theorem kd_wGd_1 : decide ((tB wGd : ByteArray) = ⟨#[116, 97, 103]⟩) = false := (by decide)
@[go_sem] theorem kd_wGd_2 : decide ((tB wGd : ByteArray) = ⟨#[109, 105, 110, 117, 115]⟩) = false := (by decide)
@[go_sem] theorem kd_wMin_0 : decide ((tB wMin : ByteArray) = ⟨#[110, 117, 109, 98, 101, 114]⟩) = false := (by decide)
@[go_sem] theorem kd_wMin_1 : decide ((tB wMin : ByteArray) = ⟨#[116, 97, 103]⟩) = false := (by decide)
@[go_sem] theorem kd_wMin_2 : decide ((tB wMin : ByteArray) = ⟨#[109, 105, 110, 117, 115]⟩) = false := (by decide)
@[go_sem] theorem kd_wMin_3 : decide ((tB wMin : ByteArray) = ⟨#[60]⟩) = false := (by decide)
@[go_sem] theorem kd_wMin_4 : decide ((tB wMin : ByteArray) = ⟨#[61]⟩) = false := (by decide)
@[go_sem] theorem kd_wMin_5 : decide ((tB wMin : ByteArray) = ⟨#[43]⟩) = false := (by decide)
@[go_sem] theorem kd_wMin_6 : decide ((tB wMin : ByteArray) = ⟨#[45]⟩) = false := (by decide)
@[go_sem] theorem kd_wMin_7 : decide ((tB wMin : ByteArray) = ⟨#[42]⟩) = false := (by decide)
@[go_sem] theorem kd_wMin_8 : decide ((tB wMin : ByteArray) = ⟨#[47]⟩) = false := (by decide)
@[go_sem] theorem kd_wMax_0 : decide ((tB wMax : ByteArray) = ⟨#[110, 117, 109, 98, 101, 114]⟩) = false := (by decide)
@[go_sem] theorem kd_wMax_1 : decide ((tB wMax : ByteArray) = ⟨#[116, 97, 103]⟩) = false := (by decide)
@[go_sem] theorem kd_wMax_2 : decide ((tB wMax : ByteArray) = ⟨#[109, 105, 110, 117, 115]⟩) = false := (by decide)
@[go_sem] theorem kd_wMax_3 : decide ((tB wMax : ByteArray) = ⟨#[60]⟩) = false := (by decide)
@[go_sem] theorem kd_wMax_4 : decide ((tB wMax : ByteArray) = ⟨#[61]⟩) = false := (by decide)
@[go_sem] theorem kd_wMax_5 : decide ((tB wMax : ByteArray) = ⟨#[43]⟩) = false := (by decide)
@[go_sem] theorem kd_wMax_6 : decide ((tB wMax : ByteArray) = ⟨#[45]⟩) = false := (by decide)
@[go_sem] theorem kd_wMax_7 : decide ((tB wMax : ByteArray) = ⟨#[42]⟩) = false := (by decide)
@[go_sem] theorem kd_wMax_8 : decide ((tB wMax : ByteArray) = ⟨#[47]⟩) = false := (by decide)
@[go_sem] theorem kd_wIf_0 : decide ((tB wIf : ByteArray) = ⟨#[110, 117, 109, 98, 101, 114]⟩) = false := (by decide)
@[go_sem] theorem kd_wIf_1 : decide ((tB wIf : ByteArray) = ⟨#[116, 97, 103]⟩) = false := (by decide)
@[go_sem] theorem kd_wIf_2 : decide ((tB wIf : ByteArray) = ⟨#[109, 105, 110, 117, 115]⟩) = false := (by decide)
theorem fn1 {f : List UInt8} (h : fnN f = 1) : f = wAbs ∨ f = wGd := by
 unfold fnN at h
 split at h
 ·assumption
 ·split at h
  ·omega
  ·split at h <;> omega
theorem fn2 {f : List UInt8} (h : fnN f = 2) : f = wMin ∨ f = wMax := by
 unfold fnN at h
 split at h
 ·omega
 ·split at h
  ·assumption
  ·split at h <;> omega
theorem fn3 {f : List UInt8} (h : fnN f = 3) : f = wIf := by
 unfold fnN at h
 split at h
 ·omega
 ·split at h
  ·omega
  ·split at h
   ·assumption
   ·omega
theorem fn_kind {f : List UInt8} (h : 0 < fnN f) : decide (tB f = ⟨#[110, 117, 109, 98, 101, 114]⟩) = false ∧ decide (tB f = ⟨#[116, 97, 103]⟩) = false ∧ decide (tB f = ⟨#[109, 105, 110, 117, 115]⟩) = false := by
 have : f = wAbs ∨ f = wGd ∨ f = wMin ∨ f = wMax ∨ f = wIf := by
  unfold fnN at h
  repeat' split at h
  all_goals first | omega | (rename_i g; grind)
 rcases this with rfl | rfl | rfl | rfl | rfl <;> exact ⟨by decide, by decide, by decide⟩
theorem op_kind {c : UInt8} (h : c ∈ ops6) : (decide (tB [c] = ⟨#[110, 117, 109, 98, 101, 114]⟩) = false ∧ decide (tB [c] = ⟨#[116, 97, 103]⟩) = false ∧ decide (tB [c] = ⟨#[109, 105, 110, 117, 115]⟩) = false) ∧ fnN [c] = 0 := by
 simp only [ops6, List.mem_cons, List.not_mem_nil, or_false] at h
 rcases h with rfl | rfl | rfl | rfl | rfl | rfl <;> exact ⟨⟨by decide, by decide, by decide⟩, by decide⟩
end Go.Proofs.YtagoolooikpabaaGreatDoor
