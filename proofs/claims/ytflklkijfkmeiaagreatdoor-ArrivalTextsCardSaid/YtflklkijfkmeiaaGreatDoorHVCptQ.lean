/- slices.CompactFunc in plain words: no program in sight. No condition. -/
import Derived.Test.YtflklkijfkmeiaaGreatDoorHVGA
namespace Go.Proofs.YtflklkijfkmeiaaGreatDoor
open Go Go.RowKit
set_option maxRecDepth 100000
set_option linter.all false
def cptQ {α : Type} (e : α → α → Bool) : α → List α → List α
  | _, [] => []
  | p, y :: t => (if e y p = true then [] else [y]) ++ cptQ e y t
def compactQ {α : Type} (e : α → α → Bool) : List α → List α
  | [] => []
  | x :: t => x :: cptQ e x t
theorem cptQ_snoc {α : Type} (e : α → α → Bool) (y : α) : ∀ (t : List α) (p : α), cptQ e p (t ++ [y]) = cptQ e p t ++ (if e y ((p :: t)[t.length]'(by simp)) = true then [] else [y])
  | [], p => by simp [cptQ]
  | z :: t, p => by
    rw [List.cons_append, cptQ, cptQ_snoc e y t z, cptQ, List.append_assoc]
    rfl
theorem compactQ_succ {α : Type} (e : α → α → Bool) (l : List α) {j : Nat} (h1 : 1 ≤ j) (h : j < l.length) :
    compactQ e (l.take (j + 1)) = compactQ e (l.take j) ++ (if e l[j] (l[j - 1]'(by omega)) = true then [] else [l[j]]) := by
  obtain ⟨m, rfl⟩ : ∃ m, j = m + 1 := ⟨j - 1, by omega⟩
  cases l with
  | nil => simp at h
  | cons x t =>
    have hm : m < t.length := by simpa using h
    rw [List.take_succ_cons, List.take_succ_eq_append_getElem hm, List.take_succ_cons]
    show x :: cptQ e x (t.take m ++ [t[m]]) = x :: cptQ e x (t.take m) ++ _
    rw [cptQ_snoc, List.cons_append]
    have e1 : (x :: t.take m)[(t.take m).length]'(by simp) = (x :: t)[m + 1 - 1] := by
      have hl : (t.take m).length = m := by rw [List.length_take]; omega
      have := List.getElem_take (xs := x :: t) (j := m + 1) (i := m) (h := by simp; omega)
      simp only [List.take_succ_cons] at this
      simp only [hl]
      exact this
    rw [e1]
    rfl
theorem compactQ_few {α : Type} (e : α → α → Bool) (l : List α) (h : l.length < 2) : compactQ e l = l := by
  match l, h with
  | [], _ => rfl
  | [_], _ => rfl
theorem cptQ_sub {α : Type} (e : α → α → Bool) : ∀ (t : List α) (p : α), ∀ x ∈ cptQ e p t, x ∈ t
  | [], _, x, h => by simp [cptQ] at h
  | y :: t, p, x, h => by
    rw [cptQ] at h
    rcases List.mem_append.1 h with h | h
    · split at h
      · simp at h
      · simp at h; subst h; simp
    · exact List.mem_cons_of_mem _ (cptQ_sub e t y x h)
theorem compactQ_sub {α : Type} (e : α → α → Bool) : ∀ l : List α, ∀ x ∈ compactQ e l, x ∈ l
  | [], x, h => by simp [compactQ] at h
  | y :: t, x, h => by
    rcases List.mem_cons.1 h with h | h
    · subst h; simp
    · exact List.mem_cons_of_mem _ (cptQ_sub e t y x h)
theorem cptQ_le {α : Type} (e : α → α → Bool) : ∀ (t : List α) (p : α), (cptQ e p t).length ≤ t.length
  | [], _ => Nat.le_refl _
  | y :: t, p => by
    rw [cptQ, List.length_append, List.length_cons]
    have := cptQ_le e t y
    split <;> simp <;> omega
theorem compactQ_le {α : Type} (e : α → α → Bool) : ∀ l : List α, (compactQ e l).length ≤ l.length
  | [] => Nat.le_refl _
  | y :: t => by
    have := cptQ_le e t y
    show (cptQ e y t).length + 1 ≤ t.length + 1
    omega
end Go.Proofs.YtflklkijfkmeiaaGreatDoor
