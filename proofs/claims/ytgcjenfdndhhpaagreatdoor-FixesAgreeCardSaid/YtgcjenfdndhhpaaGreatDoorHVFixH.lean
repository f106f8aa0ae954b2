/- Overridden fixes: the program's answer is the document's. No program in sight. -/
import Derived.Test.YtgcjenfdndhhpaaGreatDoorHVFixC
import Derived.Test.YtgcjenfdndhhpaaGreatDoorHVFixQ
namespace Go.Proofs.YtgcjenfdndhhpaaGreatDoor
open Go Go.RowKit
set_option maxRecDepth 100000
set_option linter.all false
/-- fixes up to a moment: the program's way and the document's -/
theorem trF_filter {a : Int} {l : List Fix} (hs : l.Pairwise (fun x y => x.made ≤ y.made)) : ∀ n, n ≤ l.length → (∀ k (h : k < l.length), n ≤ k → a < l[k].made) → trF a n l = l.filter (fun x => !decide (a < x.made))
  | 0, _, h => by
    rw [trF, List.take_zero]
    symm
    rw [List.filter_eq_nil_iff]
    intro x hx
    obtain ⟨k, hk, rfl⟩ := List.mem_iff_getElem.1 hx
    simpa using h k hk (by omega)
  | n + 1, hn, h => by
    have hnl : n < l.length := hn
    have e : l[n]? = some l[n] := List.getElem?_eq_getElem hnl
    rw [trF, e]
    dsimp only
    by_cases c : a < l[n].made
    · rw [if_pos c]
      refine trF_filter hs n (by omega) (fun k hk hle => ?_)
      by_cases e : n = k
      · subst e; exact c
      · exact h k hk (by omega)
    · rw [if_neg c]
      have e2 : l = l.take (n + 1) ++ l.drop (n + 1) := (List.take_append_drop _ _).symm
      conv => rhs; rw [e2, List.filter_append]
      have e3 : (l.drop (n + 1)).filter (fun x => !decide (a < x.made)) = [] := by
        rw [List.filter_eq_nil_iff]
        intro x hx
        obtain ⟨k, hk, rfl⟩ := List.mem_iff_getElem.1 hx
        rw [List.getElem_drop]
        rw [List.length_drop] at hk
        simpa using h (n + 1 + k) (by omega) (by omega)
      rw [e3, List.append_nil]
      symm
      rw [List.filter_eq_self]
      intro x hx
      obtain ⟨k, hk, rfl⟩ := List.mem_iff_getElem.1 hx
      rw [List.length_take] at hk
      rw [List.getElem_take]
      by_cases e : k = n
      · subst e; simpa using c
      · have := List.pairwise_iff_getElem.1 hs k n (by omega) hnl (by omega)
        have h4 : ¬ a < l[k].made := by omega
        simpa using h4
end Go.Proofs.YtgcjenfdndhhpaaGreatDoor
