/- Several texts in one: What the document answers of a file's blocks: its fault, index, tags, blocks found, and what follows. No condition. -/
import Derived.Test.YtnodfnjmhcjnfaaGreatDoorHVBlkC
import Derived.Test.YtnodfnjmhcjnfaaGreatDoorHVGC
/- What the document answers of a file's blocks: its fault, index, tags, blocks found. No condition but that the file is no longer than a machine holds. -/
namespace Go.Proofs.YtnodfnjmhcjnfaaGreatDoor
open Go Go.RowKit
set_option maxRecDepth 100000
set_option linter.all false
set_option maxHeartbeats 2000000
variable {H : Hp} {K : AV → Hp → Prop}
attribute [go_sem, simp] encBk
end Go.Proofs.YtnodfnjmhcjnfaaGreatDoor
/- Clocks that are corrected: no program in sight. No condition. -/
namespace Go.Proofs.YtnodfnjmhcjnfaaGreatDoor
open Go Go.RowKit
set_option maxRecDepth 100000
set_option linter.all false
structure Clk where
  n : Int
  s : Int
deriving DecidableEq
def encK (x : Clk) : List AC := [.int .i64 x.n, .int .i64 x.s]
attribute [go_sem] encK
def ckErr (i : Nat) (p x : Clk) : Int := if x.n < 0 ∨ 345686399999 < x.n ∨ x.s < 0 ∨ 345686399999 < x.s ∨ 3600000 < x.n - x.s ∨ 3600000 < x.s - x.n then 1 else if 0 < i ∧ (x.n ≤ p.n ∨ x.s ≤ p.s) then 7 else 0
def ckF (l : List Clk) : Int := if 2000 < l.length then 2 else errGo ckErr 0 ⟨0, 0⟩ l
structure Clk.ok (x : Clk) : Prop where
  n : 0 ≤ x.n ∧ x.n ≤ 345686399999
  s : 0 ≤ x.s ∧ x.s ≤ 345686399999
  d : -3600000 ≤ x.n - x.s ∧ x.n - x.s ≤ 3600000
theorem ckF_ok {l : List Clk} (h : ckF l = 0) : l.length ≤ 2000 ∧ (∀ x ∈ l, x.ok) ∧ ∀ (i j : Nat) (hj : j < l.length) (hij : i < j), (l[i]'(by omega)).n < l[j].n ∧ (l[i]'(by omega)).s < l[j].s := by
  unfold ckF at h
  split at h
  · cases h
  · have hall := errGo_all0 ckErr ⟨0, 0⟩ l h
    have key : ∀ k (hk : k < l.length), l[k].ok ∧ (∀ h : 0 < k, (l[k - 1]'(by omega)).n < l[k].n ∧ (l[k - 1]'(by omega)).s < l[k].s) := by
      intro k hk
      have h1 := hall k hk
      unfold ckErr at h1
      split at h1
      · cases h1
      · rename_i c1
        split at h1
        · cases h1
        · rename_i c2
          refine ⟨⟨by omega, by omega, by omega⟩, fun h0 => ?_⟩
          rw [prv_pos _ _ _ (by omega) h0] at c2
          omega
    refine ⟨by omega, fun x hx => ?_, fun i j hj hij => ?_⟩
    · obtain ⟨k, hk, rfl⟩ := List.getElem_of_mem hx
      exact (key k hk).1
    · have step : ∀ d, ∀ (hd : i + d + 1 < l.length), (l[i]'(by omega)).n < (l[i + d + 1]'hd).n ∧ (l[i]'(by omega)).s < (l[i + d + 1]'hd).s := by
        intro d
        induction d with
        | zero => intro hd; exact (key (i + 0 + 1) hd).2 (by omega)
        | succ d ih =>
          intro hd
          have h1 := ih (by omega)
          have h2 := (key (i + (d + 1) + 1) hd).2 (by omega)
          have e : i + (d + 1) + 1 - 1 = i + d + 1 := by omega
          simp only [e] at h2
          omega
      obtain ⟨d, rfl⟩ : ∃ d, j = i + d + 1 := ⟨j - i - 1, by omega⟩
      exact step d hj
def posK : List Clk → Int → Nat
  | [], _ => 0
  | x :: l, t => if x.n < t then posK l t + 1 else 0
theorem posK_le : ∀ (l : List Clk) (t : Int), posK l t ≤ l.length
  | [], _ => Nat.le_refl _
  | x :: l, t => by
    have := posK_le l t
    unfold posK
    split <;> simp
    omega
theorem posK_lt : ∀ (l : List Clk) (t : Int) (j : Nat) (h : j < l.length), j < posK l t → l[j].n < t
  | [], _, _, h, _ => by simp at h
  | x :: l, t, j, h, h1 => by
    unfold posK at h1
    split at h1
    · rename_i c
      cases j with
      | zero => exact c
      | succ j => exact posK_lt l t j (by simpa using h) (by omega)
    · omega
theorem posK_at : ∀ (l : List Clk) (t : Int) (h : posK l t < l.length), t ≤ l[posK l t].n
  | [], _, h => by simp at h
  | x :: l, t, h => by
    by_cases c : x.n < t
    · have e : posK (x :: l) t = posK l t + 1 := by rw [posK, if_pos c]
      have h1 : posK l t < l.length := by rw [e] at h; simpa using h
      have := posK_at l t h1
      simp only [e, List.getElem_cons_succ]
      exact this
    · have e : posK (x :: l) t = 0 := by rw [posK, if_neg c]
      simp only [e, List.getElem_cons_zero]
      omega
theorem posK_is {l : List Clk} {t : Int} {k : Nat} (hk : k ≤ l.length) (h1 : ∀ j (h : j < l.length), j < k → l[j].n < t) (h2 : ∀ h : k < l.length, t ≤ l[k].n) : posK l t = k := by
  apply Classical.byContradiction
  intro h
  rcases Nat.lt_or_gt_of_ne h with h3 | h3
  · have h4 := posK_at l t (by omega)
    have := h1 (posK l t) (by omega) h3
    omega
  · have h4 := posK_le l t
    have := posK_lt l t k (by omega) h3
    have := h2 (by omega)
    omega
def at0K (l : List Clk) (k : Nat) : Clk := l.getD k ⟨0, 0⟩
theorem at0K_at {l : List Clk} {k : Nat} (h : k < l.length) : at0K l k = l[k] := by unfold at0K; simp [List.getD, h]
def rawK (l : List Clk) (t : Int) (k : Nat) : Int :=
  if k = 0 then t + (at0K l 0).s - (at0K l 0).n
  else if k = l.length then t + (at0K l (k - 1)).s - (at0K l (k - 1)).n
  else (at0K l (k - 1)).s + (t - (at0K l (k - 1)).n) + (t - (at0K l (k - 1)).n) * (((at0K l k).s - (at0K l (k - 1)).s) - ((at0K l k).n - (at0K l (k - 1)).n)) / ((at0K l k).n - (at0K l (k - 1)).n)
def corrF (l : List Clk) (t : Int) : Int := if l = [] then t else min (max (rawK l t (posK l t)) 0) 345686399999
end Go.Proofs.YtnodfnjmhcjnfaaGreatDoor
