/- Numbers as bytes: plain definitions and lemmas, no program in sight. -/
import Derived.Test.YtnodfnjmhcjnfaaGreatDoorHVGA
namespace Go.Proofs.YtnodfnjmhcjnfaaGreatDoor
open Go Go.RowKit
def vb (z : Nat) : List UInt8 := if z < 128 then [UInt8.ofNat z] else UInt8.ofNat (z % 128 + 128) :: vb (z / 128)
termination_by z
decreasing_by omega
theorem vb_lt {z : Nat} (h : z < 128) : vb z = [UInt8.ofNat z] := by rw [vb, if_pos h]
theorem vb_ge {z : Nat} (h : 128 ≤ z) : vb z = UInt8.ofNat (z % 128 + 128) :: vb (z / 128) := by rw [vb, if_neg (by omega)]
theorem vb_pos (z : Nat) : 0 < (vb z).length := by
  by_cases h : z < 128
  · simp [vb_lt h]
  · simp [vb_ge (show 128 ≤ z by omega)]
theorem vb_len (k : Nat) : ∀ z, z < 128 ^ (k + 1) → (vb z).length ≤ k + 1 := by
  induction k with
  | zero => intro z hz; rw [vb_lt (by simpa using hz)]; simp
  | succ k ih =>
    intro z hz
    by_cases h : z < 128
    · simp [vb_lt h]
    · rw [vb_ge (by omega)]
      have := ih (z / 128) (by rw [Nat.pow_succ] at hz; exact Nat.div_lt_of_lt_mul (by rw [Nat.mul_comm]; exact hz))
      simpa using this
theorem vb_len6 {z : Nat} (h : z ≤ 2000000000001) : (vb z).length ≤ 6 := vb_len 5 z (by omega)
def zig (n : Int) : Nat := if n < 0 then (-2 * n - 1).toNat else (2 * n).toNat
def unz (u : Nat) : Int := if u % 2 = 1 then -((u / 2 : Nat) : Int) - 1 else ((u / 2 : Nat) : Int)
theorem zig_unz (u : Nat) : zig (unz u) = u := by unfold zig unz; split <;> split <;> omega
theorem unz_zig (n : Int) : unz (zig n) = n := by unfold zig unz; split <;> split <;> omega
def most : Int := 1000000000000
theorem unz_most (u : Nat) : (-1000000000000 ≤ unz u ∧ unz u ≤ 1000000000000) ↔ u ≤ 2000000000000 := by unfold unz; split <;> omega
theorem zig_most (n : Int) (h : -1000000000000 ≤ n ∧ n ≤ 1000000000000) : zig n ≤ 2000000000000 := by unfold zig; split <;> omega
def uv : List UInt8 → Option (Nat × Nat)
  | [] => none
  | c :: t => if c.toNat < 128 then some (c.toNat, 1) else (uv t).map fun p => (c.toNat % 128 + 128 * p.1, p.2 + 1)
def unv (l : List UInt8) : Option (Int × Nat) :=
  match uv l with
  | none => none
  | some (u, k) => if u ≤ 2000000000000 ∧ (vb u).length = k then some (unz u, k) else none
theorem uv_le : ∀ (l : List UInt8) (u k : Nat), uv l = some (u, k) → 1 ≤ k ∧ k ≤ l.length
  | [], _, _, h => by simp [uv] at h
  | c :: t, u, k, h => by
    simp only [uv] at h
    split at h
    · simp at h; simp; omega
    · simp only [Option.map_eq_some_iff, Prod.exists, Prod.mk.injEq] at h
      obtain ⟨v, j, h1, h2, h3⟩ := h
      have := uv_le t v j h1
      simp; omega
theorem unv_le {l : List UInt8} {n : Int} {k : Nat} (h : unv l = some (n, k)) : 1 ≤ k ∧ k ≤ l.length ∧ -1000000000000 ≤ n ∧ n ≤ 1000000000000 := by
  unfold unv at h
  split at h
  · cases h
  · rename_i u j hu
    split at h
    · rename_i hc
      simp at h
      have := uv_le l u j hu
      have := (unz_most u).2 hc.1
      omega
    · cases h
theorem uv_step (l : List UInt8) (j z : Nat) (hj : j < l.length) (hz : z < 128 ^ j) (hc : 128 ≤ (l[j]).toNat)
    (h : uv l = (uv (l.drop j)).map fun p => (z + 128 ^ j * p.1, p.2 + j)) :
    z + (l[j].toNat % 128) * 128 ^ j < 128 ^ (j + 1) ∧ uv l = (uv (l.drop (j + 1))).map fun p => (z + (l[j].toNat % 128) * 128 ^ j + 128 ^ (j + 1) * p.1, p.2 + (j + 1)) := by
  have h7 : l[j].toNat % 128 < 128 := Nat.mod_lt _ (by omega)
  constructor
  · have : (l[j].toNat % 128) * 128 ^ j ≤ 127 * 128 ^ j := Nat.mul_le_mul_right _ (by omega)
    rw [Nat.pow_succ]; omega
  · rw [h, List.drop_eq_getElem_cons hj]
    simp only [uv]
    rw [if_neg (by omega)]
    rw [Option.map_map]
    congr 1
    funext p
    simp only [Function.comp_apply, Prod.mk.injEq]
    constructor
    · rw [Nat.mul_add, Nat.pow_succ, ← Nat.mul_assoc, Nat.mul_comm (128 ^ j) (l[j].toNat % 128)]; omega
    · omega
theorem uv_stop (l : List UInt8) (j z : Nat) (hj : j < l.length) (hc : (l[j]).toNat < 128)
    (h : uv l = (uv (l.drop j)).map fun p => (z + 128 ^ j * p.1, p.2 + j)) : uv l = some (z + l[j].toNat * 128 ^ j, j + 1) := by
  rw [h, List.drop_eq_getElem_cons hj]
  simp only [uv]
  rw [if_pos hc]
  simp [Nat.mul_comm, Nat.add_comm]
theorem uv_out (l : List UInt8) (j z : Nat) (hj : l.length ≤ j) (h : uv l = (uv (l.drop j)).map fun p => (z + 128 ^ j * p.1, p.2 + j)) : uv l = none := by
  rw [h, List.drop_eq_nil_of_le hj]; rfl
theorem vb_len_of (j : Nat) : ∀ (z c : Nat), z < 128 ^ j → c < 128 → ((vb (z + c * 128 ^ j)).length = j + 1 ↔ (j = 0 ∨ 0 < c)) := by
  induction j with
  | zero => intro z c hz hc; have : z = 0 := by simpa using hz
            subst this; simp [vb_lt hc]
  | succ j ih =>
    intro z c hz hc
    by_cases h : z + c * 128 ^ (j + 1) < 128
    · have hc0 : c = 0 := by
        rcases Nat.eq_zero_or_pos c with h0 | h0
        · exact h0
        · have h1 : 1 * 128 ^ (j + 1) ≤ c * 128 ^ (j + 1) := Nat.mul_le_mul_right _ h0
          have h2 : 128 ^ (j + 1) = 128 ^ j * 128 := Nat.pow_succ 128 j
          have h3 : 0 < 128 ^ j := Nat.pow_pos (by omega)
          omega
      subst hc0
      rw [vb_lt h]; simp
    · rw [vb_ge (by omega)]
      have e : (z + c * 128 ^ (j + 1)) / 128 = z / 128 + c * 128 ^ j := by
        rw [Nat.pow_succ, ← Nat.mul_assoc, Nat.add_mul_div_right _ _ (by omega)]
      rw [e, List.length_cons]
      have hz' : z / 128 < 128 ^ j := Nat.div_lt_of_lt_mul (by rw [Nat.pow_succ, Nat.mul_comm] at hz; exact hz)
      have := ih (z / 128) c hz' hc
      rcases Nat.eq_zero_or_pos j with h0 | h0
      · subst h0
        have hz0 : z / 128 = 0 := by simpa using hz'
        constructor
        · intro _; right
          rcases Nat.eq_zero_or_pos c with h1 | h1
          · subst h1; omega
          · exact h1
        · intro _; omega
      · constructor
        · intro h1; right; have := this.1 (by omega); omega
        · intro h1; have := this.2 (by omega); omega
theorem unv_stop {l : List UInt8} {j z c : Nat} (hz : z < 128 ^ j) (hc : c < 128) (h : uv l = some (z + c * 128 ^ j, j + 1)) :
    unv l = if (j = 0 ∨ 0 < c) ∧ z + c * 128 ^ j ≤ 2000000000000 then some (unz (z + c * 128 ^ j), j + 1) else none := by
  unfold unv
  rw [h]
  simp only [vb_len_of j z c hz hc]
  congr 1
  rw [and_comm]
theorem unv_long {l : List UInt8} {j z : Nat} (hj : 7 ≤ j) (h : uv l = (uv (l.drop j)).map fun p => (z + 128 ^ j * p.1, p.2 + j)) : unv l = none := by
  unfold unv
  split
  · rfl
  · rename_i u k hu
    rw [if_neg]
    rintro ⟨h1, h2⟩
    have h6 := vb_len6 (z := u) (by omega)
    rw [h] at hu
    simp only [Option.map_eq_some_iff, Prod.exists, Prod.mk.injEq] at hu
    obtain ⟨v, i, hv, _, h3⟩ := hu
    omega
theorem unv_none {l : List UInt8} (h : uv l = none) : unv l = none := by unfold unv; rw [h]
theorem pow_128 (j : Nat) : 128 ^ j = 2 ^ (7 * j) := by rw [Nat.pow_mul]
theorem or_shift (z c s : Nat) (hz : z < 2 ^ s) : z ||| (c <<< s) = z + c * 2 ^ s := by
  rw [Nat.or_comm, ← Nat.shiftLeft_add_eq_or_of_lt hz, Nat.shiftLeft_eq, Nat.add_comm]
def csum (l : List UInt8) : Nat := l.foldl (fun c x => (c * 31 + x.toNat + 1) % 65521) 1
theorem csum_snoc (l : List UInt8) (x : UInt8) : csum (l ++ [x]) = (csum l * 31 + x.toNat + 1) % 65521 := by simp [csum]
theorem csum_lt (l : List UInt8) : csum l < 65521 := by
  rcases List.eq_nil_or_concat l with rfl | ⟨t, x, rfl⟩
  · decide
  · rw [List.concat_eq_append, csum_snoc]; exact Nat.mod_lt _ (by omega)
theorem take_snoc {α : Type} (l : List α) (k : Nat) (h : k < l.length) : l.take (k + 1) = l.take k ++ [l[k]] := by
  rw [List.take_succ_eq_append_getElem h]
end Go.Proofs.YtnodfnjmhcjnfaaGreatDoor
