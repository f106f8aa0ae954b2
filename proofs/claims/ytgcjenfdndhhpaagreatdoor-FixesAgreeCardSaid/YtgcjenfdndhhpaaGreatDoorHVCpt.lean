/- slices.Compact of strings. No condition. -/
import Derived.Shelf.Sort.Plain
import Derived.Test.YtgcjenfdndhhpaaGreatDoorHVGA
import Derived.Test.YtgcjenfdndhhpaaGreatDoorHVGF
import Derived.Test.YtgcjenfdndhhpaaGreatDoorHVGD
namespace Go.Proofs.YtgcjenfdndhhpaaGreatDoor
open Go Go.RowKit
set_option maxRecDepth 100000
set_option linter.all false
set_option maxHeartbeats 1000000
variable {H : Hp} {K : AV → Hp → Prop}
def cplG {α : Type} [DecidableEq α] : α → List α → List α
  | _, [] => []
  | p, y :: t => (if y = p then [] else [y]) ++ cplG y t
/-- what slices.Compact makes of a list -/
def cplF {α : Type} [DecidableEq α] : List α → List α
  | [] => []
  | x :: t => x :: cplG x t
theorem cplG_snoc {α : Type} [DecidableEq α] (y : α) : ∀ (t : List α) (p : α), cplG p (t ++ [y]) = cplG p t ++ (if y = ((p :: t)[t.length]'(by simp)) then [] else [y])
  | [], p => by simp [cplG]
  | z :: t, p => by
    rw [List.cons_append, cplG, cplG_snoc y t z, cplG, List.append_assoc]
    rfl
theorem cplF_succ {α : Type} [DecidableEq α] (l : List α) {j : Nat} (h1 : 1 ≤ j) (h : j < l.length) :
    cplF (l.take (j + 1)) = cplF (l.take j) ++ (if l[j] = (l[j - 1]'(by omega)) then [] else [l[j]]) := by
  obtain ⟨m, rfl⟩ : ∃ m, j = m + 1 := ⟨j - 1, by omega⟩
  cases l with
  | nil => simp at h
  | cons x t =>
    have hm : m < t.length := by simpa using h
    rw [List.take_succ_cons, List.take_succ_eq_append_getElem hm, List.take_succ_cons]
    show x :: cplG x (t.take m ++ [t[m]]) = x :: cplG x (t.take m) ++ _
    rw [cplG_snoc, List.cons_append]
    have e1 : (x :: t.take m)[(t.take m).length]'(by simp) = (x :: t)[m + 1 - 1] := by
      have hl : (t.take m).length = m := by rw [List.length_take]; omega
      have := List.getElem_take (xs := x :: t) (j := m + 1) (i := m) (h := by simp; omega)
      simp only [List.take_succ_cons] at this
      simp only [hl]
      exact this
    rw [e1]
    rfl
theorem cplF_few {α : Type} [DecidableEq α] (l : List α) (h : l.length < 2) : cplF l = l := by
  match l, h with
  | [], _ => rfl
  | [_], _ => rfl
end Go.Proofs.YtgcjenfdndhhpaaGreatDoor
