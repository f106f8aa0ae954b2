/- Arrivals sorted: one list, whichever way they are sorted. No program in sight. -/
import Derived.Test.YtgcjenfdndhhpaaGreatDoorHVArrR
namespace Go.Proofs.YtgcjenfdndhhpaaGreatDoor
open Go Go.RowKit
set_option maxRecDepth 100000
set_option linter.all false
set_option maxHeartbeats 1000000
theorem insR_perm {α : Type} (lt : α → α → Bool) (x : α) : ∀ p : List α, (insR lt p x).Perm (x :: p)
  | [] => List.Perm.refl _
  | y :: p => by
    unfold insR
    split
    · exact ((insR_perm lt x p).cons y).trans (List.Perm.swap _ _ _)
    · exact List.Perm.refl _
theorem isortG_perm {α : Type} (lt : α → α → Bool) (l : List α) : (isortG lt l).Perm l := by
  rw [isortG_eq]
  refine (List.reverse_perm _).trans ?_
  have key : ∀ (l q : List α), (l.foldl (insR lt) q).Perm (l ++ q) := by
    intro l
    induction l with
    | nil => intro q; exact List.Perm.refl _
    | cons x l ih =>
      intro q
      rw [List.foldl_cons]
      refine (ih _).trans ?_
      refine ((insR_perm lt x q).append_left l).trans ?_
      exact List.perm_middle
  have := key l []
  rwa [List.append_nil] at this
theorem insR_sortedS {α : Type} {lt : α → α → Bool} (ht : ∀ x y z, lt x y = true → lt y z = true → lt x z = true) (hn : ∀ x y z, lt x y = false → lt y z = false → lt x z = false) (hi : ∀ x y, lt x y = true → lt y x = false) (x : α) : ∀ p : List α, p.Pairwise (fun a b => lt a b = false) → (insR lt p x).Pairwise (fun a b => lt a b = false)
  | [], _ => by simp [insR]
  | y :: p, h => by
    rw [List.pairwise_cons] at h
    unfold insR
    split
    · rename_i c
      rw [List.pairwise_cons]
      refine ⟨fun z hz => ?_, insR_sortedS ht hn hi x p h.2⟩
      rcases (insR_mem lt p x z).1 hz with rfl | hz
      · exact hi _ _ c
      · exact h.1 z hz
    · rename_i c
      have c : lt x y = false := by simpa using c
      rw [List.pairwise_cons, List.pairwise_cons]
      refine ⟨fun z hz => ?_, h⟩
      rcases List.mem_cons.1 hz with rfl | hz
      · exact c
      · exact hn _ _ _ c (h.1 z hz)
theorem isortG_sortedS {α : Type} {lt : α → α → Bool} (ht : ∀ x y z, lt x y = true → lt y z = true → lt x z = true) (hn : ∀ x y z, lt x y = false → lt y z = false → lt x z = false) (hi : ∀ x y, lt x y = true → lt y x = false) (l : List α) : (isortG lt l).Pairwise (fun a b => lt b a = false) := by
  rw [isortG_eq, List.pairwise_reverse]
  have key : ∀ (l q : List α), q.Pairwise (fun a b => lt a b = false) → (l.foldl (insR lt) q).Pairwise (fun a b => lt a b = false) := by
    intro l
    induction l with
    | nil => intro q h; exact h
    | cons x l ih => intro q h; exact ih _ (insR_sortedS ht hn hi x q h)
  exact key l [] List.Pairwise.nil
theorem cmpB_trans : ∀ a b c : List UInt8, Lib.compareBytes a b < 0 → Lib.compareBytes b c < 0 → Lib.compareBytes a c < 0
  | [], [], c, h, _ => by simp [Lib.compareBytes] at h
  | [], _ :: _, [], _, h => by simp [Lib.compareBytes] at h
  | [], _ :: _, _ :: _, _, _ => by simp [Lib.compareBytes]
  | _ :: _, [], _, h, _ => by simp [Lib.compareBytes] at h
  | _ :: _, _ :: _, [], _, h => by simp [Lib.compareBytes] at h
  | x :: a, y :: b, z :: c, h1, h2 => by
    have ih := cmpB_trans a b c
    unfold Lib.compareBytes at h1 h2 ⊢
    have tr : ∀ p q r : UInt8, p < q → q < r → p < r := fun p q r => UInt8.lt_trans
    have eq : ∀ p q : UInt8, ¬ p < q → ¬ q < p → p = q := fun p q h1 h2 => UInt8.le_antisymm (UInt8.not_lt.1 h2) (UInt8.not_lt.1 h1)
    by_cases a1 : x < y
    · by_cases b1 : y < z
      · rw [if_pos (tr _ _ _ a1 b1)]; omega
      · rw [if_neg b1] at h2
        by_cases b2 : z < y
        · rw [if_pos b2] at h2; omega
        · rw [eq _ _ b1 b2] at a1
          rw [if_pos a1]; omega
    · rw [if_neg a1] at h1
      by_cases a2 : y < x
      · rw [if_pos a2] at h1; omega
      · rw [if_neg a2] at h1
        have e := eq _ _ a1 a2
        subst e
        by_cases b1 : x < z
        · rw [if_pos b1]; omega
        · rw [if_neg b1] at h2 ⊢
          by_cases b2 : z < x
          · rw [if_pos b2] at h2; omega
          · rw [if_neg b2] at h2 ⊢
            exact ih h1 h2
theorem cmpS_trans (a b c : ByteArray) (h1 : cmpS a b < 0) (h2 : cmpS b c < 0) : cmpS a c < 0 := cmpB_trans _ _ _ h1 h2
theorem cmpS_tri (a b : ByteArray) : cmpS a b < 0 ∨ a = b ∨ cmpS b a < 0 := by
  have h1 := cmpS_flip a b
  have h2 := cmpS_eq a b
  by_cases h : cmpS a b = 0
  · exact Or.inr (Or.inl (h2.1 h))
  · omega
theorem cmpS_rfl (a : ByteArray) : cmpS a a = 0 := (cmpS_eq a a).2 rfl
end Go.Proofs.YtgcjenfdndhhpaaGreatDoor
