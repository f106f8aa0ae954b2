/- Runs of samples with one value: no program in sight. No condition. -/
import Derived.Test.YtdcedhgkigpejaaGreatDoorHVGF
namespace Go.Proofs.YtdcedhgkigpejaaGreatDoor
open Go Go.RowKit
set_option maxRecDepth 100000
set_option linter.all false
def goodP (l : List Smp) (i k : Nat) : Bool := match l[i]?, l[k]? with
  | some x, some y => decide (x.q ≠ 2 ∧ y.q ≠ 2 ∧ y.v = x.v)
  | _, _ => false
theorem goodP_at {l : List Smp} {i k : Nat} (hi : i < l.length) (hk : k < l.length) : goodP l i k = decide (l[i].q ≠ 2 ∧ l[k].q ≠ 2 ∧ l[k].v = l[i].v) := by
  unfold goodP
  rw [List.getElem?_eq_getElem hi, List.getElem?_eq_getElem hk]
theorem goodP_out {l : List Smp} {i k : Nat} (hk : l.length ≤ k) : goodP l i k = false := by
  unfold goodP
  rw [List.getElem?_eq_none hk]
  split <;> first | rfl | (rename_i h; cases h)
def runE (l : List Smp) (i : Nat) : Nat → Nat → Nat
  | 0, k => k
  | f + 1, k => if goodP l i k = true then runE l i f (k + 1) else k
def endR (l : List Smp) (i : Nat) : Nat := runE l i l.length (i + 1)
theorem runE_is (l : List Smp) (i : Nat) : ∀ (f k0 k : Nat), k0 ≤ k → k - k0 ≤ f → (∀ j, k0 ≤ j → j < k → goodP l i j = true) → goodP l i k = false → runE l i f k0 = k
  | 0, k0, k, h1, h2, _, _ => by unfold runE; omega
  | f + 1, k0, k, h1, h2, h3, h4 => by
    unfold runE
    by_cases e : k0 = k
    · subst e; rw [if_neg (by rw [h4]; simp)]
    · rw [if_pos (h3 k0 (Nat.le_refl _) (by omega))]
      exact runE_is l i f (k0 + 1) k (by omega) (by omega) (fun j a b => h3 j (by omega) b) h4
theorem endR_is {l : List Smp} {i k : Nat} (h1 : i < k) (h2 : k ≤ l.length) (h3 : ∀ j, i < j → j < k → goodP l i j = true) (h4 : goodP l i k = false) : endR l i = k :=
  runE_is l i l.length (i + 1) k h1 (by omega) (fun j a b => h3 j a b) h4
theorem endR_bd {l : List Smp} {i : Nat} (hi : i < l.length) : i < endR l i ∧ endR l i ≤ l.length := by
  have key : ∀ (f k : Nat), k ≤ l.length → k ≤ runE l i f k ∧ runE l i f k ≤ l.length := by
    intro f
    induction f with
    | zero => intro k hk; exact ⟨Nat.le_refl _, hk⟩
    | succ f ih =>
      intro k hk
      unfold runE
      by_cases c : goodP l i k = true
      · rw [if_pos c]
        have : k < l.length := by
          apply Classical.byContradiction
          intro h
          rw [goodP_out (by omega)] at c
          cases c
        have := ih (k + 1) (by omega)
        omega
      · rw [if_neg c]; omega
  have := key l.length (i + 1) (by omega)
  unfold endR
  omega
def winOf (l : List Smp) (i k : Nat) : Win := ⟨(l.getD i ⟨0, 0, 0⟩).t, (l.getD (k - 1) ⟨0, 0, 0⟩).t + 1⟩
def piece (l : List Smp) (least : Int) (i : Nat) : List Win := if least ≤ (endR l i : Int) - i then [winOf l i (endR l i)] else []
def stuckGo (l : List Smp) (least : Int) : Nat → Nat → List Win
  | 0, _ => []
  | f + 1, i => if i < l.length then piece l least i ++ stuckGo l least f (endR l i) else []
theorem stuckGo_fuel (l : List Smp) (least : Int) : ∀ (f g i : Nat), l.length - i ≤ f → l.length - i ≤ g → stuckGo l least f i = stuckGo l least g i
  | 0, g, i, h1, h2 => by
    cases g with
    | zero => rfl
    | succ g => rw [stuckGo, stuckGo, if_neg (by omega)]
  | f + 1, g, i, h1, h2 => by
    cases g with
    | zero => rw [stuckGo, stuckGo, if_neg (by omega)]
    | succ g =>
      rw [stuckGo, stuckGo]
      by_cases h : i < l.length
      · have := endR_bd h
        rw [if_pos h, if_pos h, stuckGo_fuel l least f g (endR l i) (by omega) (by omega)]
      · rw [if_neg h, if_neg h]
def stuckF (l : List Smp) (least : Int) (i : Nat) : List Win := stuckGo l least l.length i
theorem stuckF_next {l : List Smp} {least : Int} {i : Nat} (h : i < l.length) : stuckF l least i = piece l least i ++ stuckF l least (endR l i) := by
  unfold stuckF
  have := endR_bd h
  rw [stuckGo_fuel l least l.length (l.length - 1 + 1) i (by omega) (by omega), stuckGo, if_pos h, stuckGo_fuel l least (l.length - 1) l.length (endR l i) (by omega) (by omega)]
theorem stuckF_end {l : List Smp} {least : Int} {i : Nat} (h : l.length ≤ i) : stuckF l least i = [] := by
  unfold stuckF
  cases hl : l.length with
  | zero => rfl
  | succ n => rw [stuckGo, if_neg (by omega)]
theorem stuckGo_len (l : List Smp) (least : Int) : ∀ (f i : Nat), (stuckGo l least f i).length ≤ f
  | 0, i => by simp [stuckGo]
  | f + 1, i => by
    rw [stuckGo]
    split
    · have := stuckGo_len l least f (endR l i)
      rw [List.length_append]
      have : (piece l least i).length ≤ 1 := by unfold piece; split <;> simp
      omega
    · simp
theorem stuckF_len (l : List Smp) (least : Int) : (stuckF l least 0).length ≤ l.length := stuckGo_len l least l.length 0
/-- neighbours alike -/
def alike (l : List Smp) (i k : Nat) : Bool := match l[i]?, l[k]? with
  | some x, some y => decide (x.v = y.v ∧ x.q ≠ 2 ∧ y.q ≠ 2)
  | _, _ => false
theorem alike_at {l : List Smp} {i k : Nat} (hi : i < l.length) (hk : k < l.length) : alike l i k = decide (l[i].v = l[k].v ∧ l[i].q ≠ 2 ∧ l[k].q ≠ 2) := by
  unfold alike
  rw [List.getElem?_eq_getElem hi, List.getElem?_eq_getElem hk]
/-- from neighbour to neighbour the run is the same -/
theorem endR_alike {l : List Smp} {i k : Nat} (h1 : i ≤ k) (h2 : k < l.length) (h3 : ∀ j, i ≤ j → j < k → alike l j (j + 1) = true) (h4 : k + 1 < l.length → alike l k (k + 1) = false) : endR l i = k + 1 := by
  have hg : ∀ j, i < j → j ≤ k → goodP l i j = true := by
    intro j
    induction j with
    | zero => intro h _; omega
    | succ j ih =>
      intro ha hb
      have h5 := h3 j (by omega) (by omega)
      rw [alike_at (by omega) (by omega), decide_eq_true_eq] at h5
      rw [goodP_at (by omega) (by omega), decide_eq_true_eq]
      rcases Nat.lt_or_ge i j with h | h
      · have h6 := ih h (by omega)
        rw [goodP_at (by omega) (by omega), decide_eq_true_eq] at h6
        exact ⟨h6.1, h5.2.2, by rw [← h5.1, h6.2.2]⟩
      · have e : i = j := by omega
        subst e
        exact ⟨h5.2.1, h5.2.2, h5.1.symm⟩
  refine endR_is (by omega) (by omega) (fun j a b => hg j a (by omega)) ?_
  rcases Nat.lt_or_ge (k + 1) l.length with h | h
  · have h5 := h4 h
    rw [alike_at (by omega) (by omega), decide_eq_false_iff_not] at h5
    rw [goodP_at (by omega) (by omega), decide_eq_false_iff_not]
    rintro ⟨a, b, c⟩
    rcases Nat.lt_or_ge i k with h6 | h6
    · have h7 := hg k h6 (Nat.le_refl _)
      rw [goodP_at (by omega) (by omega), decide_eq_true_eq] at h7
      exact h5 ⟨by rw [h7.2.2, c], h7.2.1, b⟩
    · have e : i = k := by omega
      subst e
      exact h5 ⟨c.symm, a, b⟩
  · exact goodP_out h
end Go.Proofs.YtdcedhgkigpejaaGreatDoor
