/- The nodes of arrivals: as many whichever way they are counted. No program in sight. -/
import Derived.Test.YtgcjenfdndhhpaaGreatDoorHVArrC
import Derived.Test.YtgcjenfdndhhpaaGreatDoorHVCpt
import Derived.Test.YtgcjenfdndhhpaaGreatDoorHVSortI
namespace Go.Proofs.YtgcjenfdndhhpaaGreatDoor
open Go Go.RowKit
set_option maxRecDepth 100000
set_option linter.all false
set_option maxHeartbeats 1000000
theorem cplG_mem {α : Type} [DecidableEq α] {x : α} : ∀ {t : List α} {p : α}, x ∈ p :: cplG p t ↔ x ∈ p :: t
  | [], p => by simp [cplG]
  | y :: t, p => by
    have ih := cplG_mem (x := x) (t := t) (p := y)
    unfold cplG
    by_cases h : y = p
    · subst h
      simp only [if_true, List.nil_append]
      rw [ih]
      simp
    · rw [if_neg h, List.singleton_append, List.mem_cons, ih, List.mem_cons (a := x) (b := p)]
theorem cplF_mem {α : Type} [DecidableEq α] {x : α} {l : List α} : x ∈ cplF l ↔ x ∈ l := by
  cases l with
  | nil => exact Iff.rfl
  | cons p t => exact cplG_mem
theorem cplG_lt {α : Type} [DecidableEq α] {r : α → α → Prop} (ha : ∀ a b, r a b → r b a → a = b) : ∀ {t : List α} {p : α}, (p :: t).Pairwise r → (p :: cplG p t).Pairwise (fun a b => r a b ∧ a ≠ b)
  | [], p, _ => by simp [cplG]
  | y :: t, p, h => by
    have h1 := List.pairwise_cons.1 h
    have ih := cplG_lt ha h1.2
    unfold cplG
    by_cases hy : y = p
    · subst hy
      simpa using ih
    · rw [if_neg hy, List.singleton_append]
      refine List.pairwise_cons.2 ⟨fun z hz => ?_, ih⟩
      have hz := cplG_mem.1 hz
      refine ⟨h1.1 z hz, fun e => ?_⟩
      subst e
      rcases List.mem_cons.1 hz with e | e
      · exact hy e.symm
      · exact hy (ha _ _ ((List.pairwise_cons.1 h1.2).1 _ e) (h1.1 y (List.mem_cons_self)))
theorem cplF_lt {α : Type} [DecidableEq α] {r : α → α → Prop} (ha : ∀ a b, r a b → r b a → a = b) {l : List α} (h : l.Pairwise r) : (cplF l).Pairwise (fun a b => r a b ∧ a ≠ b) := by
  cases l with
  | nil => exact List.Pairwise.nil
  | cons p t => exact cplG_lt ha h
end Go.Proofs.YtgcjenfdndhhpaaGreatDoor
