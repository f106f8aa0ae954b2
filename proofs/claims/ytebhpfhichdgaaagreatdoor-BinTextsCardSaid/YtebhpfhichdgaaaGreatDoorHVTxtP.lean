/- A number of a string: base.Number and the reference's Number. -/
import Derived.Test.YtebhpfhichdgaaaGreatDoorHVTxtS
namespace Go.Proofs.YtebhpfhichdgaaaGreatDoor
open Go Go.RowKit
set_option maxRecDepth 100000
set_option linter.all false
set_option maxHeartbeats 2000000
variable {H : Hp} {K : AV → Hp → Prop}
theorem byteAt_tB (l : List UInt8) (i : Nat) : byteAt (tB l) i = ((l.getD i 0).toNat : Int) := by
  show (((tL (tB l)).getD i 0).toNat : Int) = _
  rw [tL_tB]
theorem dig_iff (b : UInt8) : (Lib.digitVal b).isSome = decide (48 ≤ b.toNat ∧ b.toNat ≤ 57) := by
  unfold Lib.digitVal
  split <;> simp_all <;> omega
theorem getD_in {l : List UInt8} {i : Nat} (h : i < l.length) : l.getD i 0 = l[i] := by
  rw [List.getD_eq_getElem?_getD, List.getElem?_eq_getElem h, Option.getD_some]
theorem digB_iff (d : List UInt8) : digB d = true ↔ ∀ i, i < d.length → 48 ≤ byteAt (tB d) i ∧ byteAt (tB d) i ≤ 57 := by
  unfold digB
  rw [List.all_eq_true]
  constructor
  · intro h i hi
    have := h _ (List.getElem_mem hi)
    rw [dig_iff, decide_eq_true_eq] at this
    rw [byteAt_tB, getD_in hi]
    omega
  · intro h b hb
    obtain ⟨i, hi, rfl⟩ := List.mem_iff_getElem.1 hb
    have := h i hi
    rw [byteAt_tB, getD_in hi] at this
    rw [dig_iff, decide_eq_true_eq]
    omega
theorem head_byte {d : List UInt8} (h : d ≠ []) : d.head? = some 48 ↔ byteAt (tB d) 0 = 48 := by
  cases d with
  | nil => exact absurd rfl h
  | cons x t =>
    rw [byteAt_tB]
    show some x = some 48 ↔ (x.toNat : Int) = 48
    rw [Option.some.injEq]
    refine ⟨fun e => by rw [e]; rfl, fun e => ?_⟩
    apply UInt8.toNat_inj.1
    have : (48 : UInt8).toNat = 48 := rfl
    omega
theorem strip_le (l : List UInt8) : (stripF l).length ≤ l.length ∧ l.length ≤ (stripF l).length + 1 := by
  unfold stripF
  split
  · rw [List.length_tail]; omega
  · omega
theorem tB_nil {l : List UInt8} : tB l = ⟨#[]⟩ ↔ l = [] := by
  rw [size_zero, tB_size, List.length_eq_zero_iff]
end Go.Proofs.YtebhpfhichdgaaaGreatDoor
