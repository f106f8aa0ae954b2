/- What numbers' bytes are read as: no program in sight. Condition: what is said in each. -/
import Derived.Test.YtnodfnjmhcjnfaaGreatDoorHVBytes3
namespace Go.Proofs.YtnodfnjmhcjnfaaGreatDoor
open Go Go.RowKit
set_option maxRecDepth 100000
set_option linter.all false
theorem uv_vb (t : List UInt8) : ∀ u : Nat, uv (vb u ++ t) = some (u, (vb u).length) := by
  intro u
  induction u using Nat.strongRecOn with
  | ind u ih =>
    by_cases h : u < 128
    · rw [vb_lt h]
      have : (UInt8.ofNat u).toNat = u := by rw [UInt8.toNat_ofNat']; omega
      simp [uv, this, h]
    · have hc : (UInt8.ofNat (u % 128 + 128)).toNat = u % 128 + 128 := by rw [UInt8.toNat_ofNat']; omega
      rw [vb_ge (by omega), List.cons_append]
      simp only [uv, hc]
      rw [if_neg (by omega), ih (u / 128) (by omega)]
      simp only [Option.map_some, Option.some.injEq, Prod.mk.injEq, List.length_cons, and_true]
      omega
theorem unv_vb (t : List UInt8) {n : Int} (h : okN n) : unv (vb (zig n) ++ t) = some (n, (vb (zig n)).length) := by
  unfold unv
  rw [uv_vb]
  dsimp only
  rw [if_pos ⟨zig_most n h, rfl⟩, unz_zig]
theorem uvR_vb (p t : List UInt8) {n : Int} (h : okN n) : uvR (p ++ (vb (zig n) ++ t)) p.length = some (n, p.length + (vb (zig n)).length) := by
  unfold uvR
  rw [List.drop_left, unv_vb t h]
  rfl
end Go.Proofs.YtnodfnjmhcjnfaaGreatDoor
