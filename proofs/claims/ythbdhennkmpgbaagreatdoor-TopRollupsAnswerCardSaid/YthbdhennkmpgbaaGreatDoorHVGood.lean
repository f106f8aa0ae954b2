/- What good samples come to. No condition. -/
import Derived.Test.YthbdhennkmpgbaaGreatDoorHVGJ
namespace Go.Proofs.YthbdhennkmpgbaaGreatDoor
open Go Go.RowKit
set_option maxRecDepth 100000
set_option linter.all false
/-- what good samples come to -/
def gs (l : List Smp) : Int := ((l.filter (fun x => decide (x.q = 0))).map (fun x => x.v)).sum
def gn (l : List Smp) : Int := ((l.filter (fun x => decide (x.q = 0))).length : Nat)
theorem gs_nil : gs [] = 0 := rfl
theorem gn_nil : gn [] = 0 := rfl
attribute [go_sem] gs_nil gn_nil
theorem gs_bd : ∀ l : List Smp, (∀ x ∈ l, -1000000 ≤ x.v ∧ x.v ≤ 1000000) → -1000000 * (l.length : Int) ≤ gs l ∧ gs l ≤ 1000000 * (l.length : Int) ∧ 0 ≤ gn l ∧ gn l ≤ l.length
  | [], _ => by simp [gs, gn]
  | x :: l, h => by
    have ih := gs_bd l (fun y hy => h y (by simp [hy]))
    have hx := h x (by simp)
    unfold gs gn at *
    by_cases c : x.q = 0
    · rw [List.filter_cons_of_pos (by simpa using c)]
      simp only [List.map_cons, List.sum_cons, List.length_cons]
      omega
    · rw [List.filter_cons_of_neg (by simpa using c)]
      simp only [List.length_cons]
      omega
theorem gs_next {l : List Smp} {k : Nat} (h : k < l.length) : if l[k].q = 0 then gs (l.drop (k + 1)) = gs (l.drop k) - l[k].v ∧ gn (l.drop (k + 1)) = gn (l.drop k) - 1 else gs (l.drop (k + 1)) = gs (l.drop k) ∧ gn (l.drop (k + 1)) = gn (l.drop k) := by
  rw [List.drop_eq_getElem_cons h]
  generalize l[k] = x
  generalize l.drop (k + 1) = r
  unfold gs gn
  by_cases c : x.q = 0
  · rw [if_pos c, List.filter_cons_of_pos (by simpa using c)]
    simp only [List.map_cons, List.sum_cons, List.length_cons]
    omega
  · rw [if_neg c, List.filter_cons_of_neg (by simpa using c)]
    exact ⟨rfl, rfl⟩
end Go.Proofs.YthbdhennkmpgbaaGreatDoor
