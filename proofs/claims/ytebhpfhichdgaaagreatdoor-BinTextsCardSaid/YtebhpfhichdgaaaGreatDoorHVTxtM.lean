/- Words and lines as text; samples written and read. No program in sight. -/
import Derived.Test.YtebhpfhichdgaaaGreatDoorHVTxtN
import Derived.Test.YtebhpfhichdgaaaGreatDoorHVGB
namespace Go.Proofs.YtebhpfhichdgaaaGreatDoor
open Go Go.RowKit
set_option maxRecDepth 100000
set_option linter.all false
set_option maxHeartbeats 1000000
def splitL (c : UInt8) : List UInt8 → List (List UInt8)
  | [] => [[]]
  | x :: t => if x = c then [] :: splitL c t else (x :: (splitL c t).headD []) :: (splitL c t).tail
theorem splitL_cons (c x : UInt8) (t : List UInt8) : splitL c (x :: t) = if x = c then [] :: splitL c t else (x :: (splitL c t).headD []) :: (splitL c t).tail := by rw [splitL]
theorem splitL_ne (c : UInt8) (l : List UInt8) : splitL c l ≠ [] := by
  cases l with
  | nil => simp [splitL]
  | cons x t => unfold splitL; split <;> simp
theorem splitL_no {c : UInt8} : ∀ {l : List UInt8}, c ∉ l → splitL c l = [l]
  | [], _ => rfl
  | x :: t, h => by
    have h1 : x ≠ c := fun e => h (by simp [e])
    have h2 : c ∉ t := fun e => h (List.mem_cons_of_mem _ e)
    unfold splitL
    rw [if_neg h1, splitL_no h2]
    rfl
theorem splitL_cut {c : UInt8} : ∀ {a : List UInt8} (b : List UInt8), c ∉ a → splitL c (a ++ c :: b) = a :: splitL c b
  | [], b, _ => by
    show splitL c (c :: b) = _
    rw [splitL_cons, if_pos rfl]
  | x :: t, b, h => by
    have h1 : x ≠ c := fun e => h (by simp [e])
    have h2 : c ∉ t := fun e => h (List.mem_cons_of_mem _ e)
    rw [List.cons_append, splitL_cons, if_neg h1, splitL_cut b h2]
    rfl
theorem cut_cases (c : UInt8) : ∀ l : List UInt8, c ∉ l ∨ ∃ a b, l = a ++ c :: b ∧ c ∉ a
  | [] => .inl (by simp)
  | x :: t => by
    by_cases hx : x = c
    · exact .inr ⟨[], t, by rw [hx]; rfl, by simp⟩
    · rcases cut_cases c t with h | ⟨a, b, rfl, h⟩
      · exact .inl (fun e => by rcases List.mem_cons.1 e with e | e; exact hx e.symm; exact h e)
      · exact .inr ⟨x :: a, b, rfl, fun e => by rcases List.mem_cons.1 e with e | e; exact hx e.symm; exact h e⟩
theorem splitL_len (c : UInt8) : ∀ l : List UInt8, (splitL c l).length = (l.filter fun x => decide (x = c)).length + 1
  | [] => rfl
  | x :: t => by
    have ih := splitL_len c t
    have h0 := splitL_ne c t
    unfold splitL
    by_cases hx : x = c
    · rw [if_pos hx, List.filter_cons, if_pos (by simpa using hx), List.length_cons, List.length_cons, ih]
    · rw [if_neg hx, List.filter_cons, if_neg (by simpa using hx), List.length_cons, List.length_tail, ih]
      omega
/-! ### a line of a sample -/
/-! ### texts -/
def lnsF (l : List UInt8) : List (List UInt8) := (splitL 10 l).dropLast
def remF (l : List UInt8) : List UInt8 := (splitL 10 l).getLastD []
theorem lns_cut {a : List UInt8} (b : List UInt8) (h : (10 : UInt8) ∉ a) : lnsF (a ++ 10 :: b) = a :: lnsF b ∧ remF (a ++ 10 :: b) = remF b := by
  unfold lnsF remF
  rw [splitL_cut b h]
  have h0 := splitL_ne 10 b
  cases hs : splitL 10 b with
  | nil => exact absurd hs h0
  | cons x t => exact ⟨rfl, by simp⟩
theorem lns_no {a : List UInt8} (h : (10 : UInt8) ∉ a) : lnsF a = [] ∧ remF a = a := by
  unfold lnsF remF
  rw [splitL_no h]
  exact ⟨rfl, rfl⟩
end Go.Proofs.YtebhpfhichdgaaaGreatDoor
