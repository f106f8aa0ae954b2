/- What numbers' bytes are read as: no program in sight. Condition: what is said in each. -/
import Derived.Test.YthgdllfkejlnmaaGreatDoorHVBytes3
namespace Go.Proofs.YthgdllfkejlnmaaGreatDoor
open Go Go.RowKit
set_option maxRecDepth 100000
set_option linter.all false
theorem uv_vb (t : List UInt8) : ∀ u : Nat, uv (vb u ++ t) = some (u, (vb u).length) := by
  intro u
  induction u using Nat.strongRecOn with
  | ind u ih =>
    by_cases h : u < 128
    · rw [vb_lt h]
      have : (UInt8.ofNat u).toNat = u := by rw [UInt8.toNat_ofNat']; omega
      simp [uv, this, h]
    · have hc : (UInt8.ofNat (u % 128 + 128)).toNat = u % 128 + 128 := by rw [UInt8.toNat_ofNat']; omega
      rw [vb_ge (by omega), List.cons_append]
      simp only [uv, hc]
      rw [if_neg (by omega), ih (u / 128) (by omega)]
      simp only [Option.map_some, Option.some.injEq, Prod.mk.injEq, List.length_cons, and_true]
      omega
theorem unv_vb (t : List UInt8) {n : Int} (h : okN n) : unv (vb (zig n) ++ t) = some (n, (vb (zig n)).length) := by
  unfold unv
  rw [uv_vb]
  dsimp only
  rw [if_pos ⟨zig_most n h, rfl⟩, unz_zig]
theorem uvR_vb (p t : List UInt8) {n : Int} (h : okN n) : uvR (p ++ (vb (zig n) ++ t)) p.length = some (n, p.length + (vb (zig n)).length) := by
  unfold uvR
  rw [List.drop_left, unv_vb t h]
  rfl
/-- what stands there is the number's own bytes -/
theorem vb_uv : ∀ (l : List UInt8) (u k : Nat), uv l = some (u, k) → (vb u).length = k → vb u = l.take k
  | [], _, _, h, _ => by simp [uv] at h
  | c :: t, u, k, h, hk => by
    simp only [uv] at h
    split at h
    · rename_i hc
      simp only [Option.some.injEq, Prod.mk.injEq] at h
      obtain ⟨rfl, rfl⟩ := h
      rw [vb_lt hc]
      simp
    · rename_i hc
      obtain ⟨⟨v, j⟩, h1, h2⟩ := Option.map_eq_some_iff.1 h
      simp only [Prod.mk.injEq] at h2
      obtain ⟨rfl, rfl⟩ := h2
      have hc2 := UInt8.toNat_lt c
      have hv0 : 0 < v ∨ v = 0 := by omega
      by_cases hs : c.toNat % 128 + 128 * v < 128
      · rw [vb_lt hs] at hk
        have := uv_le t v j h1
        simp at hk
        omega
      · rw [vb_ge (by omega)] at hk ⊢
        have e1 : (c.toNat % 128 + 128 * v) / 128 = v := by omega
        have e2 : (c.toNat % 128 + 128 * v) % 128 + 128 = c.toNat := by omega
        rw [e1] at hk ⊢
        rw [e2]
        have ih := vb_uv t v j h1 (by simpa using hk)
        rw [ih]
        simp
theorem vb_unv {l : List UInt8} {n : Int} {k : Nat} (h : unv l = some (n, k)) : vb (zig n) = l.take k := by
  unfold unv at h
  split at h
  · cases h
  · rename_i u j hu
    split at h
    · rename_i hc
      simp only [Option.some.injEq, Prod.mk.injEq] at h
      obtain ⟨rfl, rfl⟩ := h
      rw [zig_unz]
      exact vb_uv l u j hu hc.2
    · cases h
end Go.Proofs.YthgdllfkejlnmaaGreatDoor
