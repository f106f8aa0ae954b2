/- Words and lines as text; samples written and read. No program in sight. -/
import Derived.Test.YtflklkijfkmeiaaGreatDoorHVTxtN
import Derived.Test.YtflklkijfkmeiaaGreatDoorHVGB
namespace Go.Proofs.YtflklkijfkmeiaaGreatDoor
open Go Go.RowKit
set_option maxRecDepth 100000
set_option linter.all false
set_option maxHeartbeats 1000000
def splitL (c : UInt8) : List UInt8 → List (List UInt8)
  | [] => [[]]
  | x :: t => if x = c then [] :: splitL c t else (x :: (splitL c t).headD []) :: (splitL c t).tail
theorem splitL_cons (c x : UInt8) (t : List UInt8) : splitL c (x :: t) = if x = c then [] :: splitL c t else (x :: (splitL c t).headD []) :: (splitL c t).tail := by rw [splitL]
theorem splitL_ne (c : UInt8) (l : List UInt8) : splitL c l ≠ [] := by
  cases l with
  | nil => simp [splitL]
  | cons x t => unfold splitL; split <;> simp
theorem splitL_no {c : UInt8} : ∀ {l : List UInt8}, c ∉ l → splitL c l = [l]
  | [], _ => rfl
  | x :: t, h => by
    have h1 : x ≠ c := fun e => h (by simp [e])
    have h2 : c ∉ t := fun e => h (List.mem_cons_of_mem _ e)
    unfold splitL
    rw [if_neg h1, splitL_no h2]
    rfl
theorem splitL_cut {c : UInt8} : ∀ {a : List UInt8} (b : List UInt8), c ∉ a → splitL c (a ++ c :: b) = a :: splitL c b
  | [], b, _ => by
    show splitL c (c :: b) = _
    rw [splitL_cons, if_pos rfl]
  | x :: t, b, h => by
    have h1 : x ≠ c := fun e => h (by simp [e])
    have h2 : c ∉ t := fun e => h (List.mem_cons_of_mem _ e)
    rw [List.cons_append, splitL_cons, if_neg h1, splitL_cut b h2]
    rfl
theorem cut_cases (c : UInt8) : ∀ l : List UInt8, c ∉ l ∨ ∃ a b, l = a ++ c :: b ∧ c ∉ a
  | [] => .inl (by simp)
  | x :: t => by
    by_cases hx : x = c
    · exact .inr ⟨[], t, by rw [hx]; rfl, by simp⟩
    · rcases cut_cases c t with h | ⟨a, b, rfl, h⟩
      · exact .inl (fun e => by rcases List.mem_cons.1 e with e | e; exact hx e.symm; exact h e)
      · exact .inr ⟨x :: a, b, rfl, fun e => by rcases List.mem_cons.1 e with e | e; exact hx e.symm; exact h e⟩
theorem splitL_len (c : UInt8) : ∀ l : List UInt8, (splitL c l).length = (l.filter fun x => decide (x = c)).length + 1
  | [] => rfl
  | x :: t => by
    have ih := splitL_len c t
    have h0 := splitL_ne c t
    unfold splitL
    by_cases hx : x = c
    · rw [if_pos hx, List.filter_cons, if_pos (by simpa using hx), List.length_cons, List.length_cons, ih]
    · rw [if_neg hx, List.filter_cons, if_neg (by simpa using hx), List.length_cons, List.length_tail, ih]
      omega
/-! ### a line of a sample -/
def wGood : List UInt8 := [103, 111, 111, 100]
def wUnc : List UInt8 := [117, 110, 99, 101, 114, 116, 97, 105, 110]
def wBad : List UInt8 := [98, 97, 100]
def wordF (q : Int) : List UInt8 := if q = 0 then wGood else if q = 1 then wUnc else wBad
def wordQ (w : List UInt8) : Option Int := if w = wGood then some 0 else if w = wUnc then some 1 else if w = wBad then some 2 else none
def rdW : List (List UInt8) → Option Smp
  | [a, b, c] => match numF a 15, numF b 15, wordQ c with
    | some t, some v, some q => some ⟨t, v, q⟩
    | _, _, _ => none
  | _ => none
theorem rdW_ne {ws : List (List UInt8)} {x : Smp} (h : rdW ws = some x) : ws.length = 3 ∧ [] ∉ ws := by
  unfold rdW at h
  split at h
  · rename_i a b c
    split at h
    · rename_i t v q h1 h2 h3
      refine ⟨rfl, fun hm => ?_⟩
      have n0 : numF [] 15 = none := rfl
      have q0 : wordQ [] = none := by decide
      simp only [List.mem_cons, List.not_mem_nil, or_false] at hm
      rcases hm with rfl | rfl | rfl
      · rw [n0] at h1; cases h1
      · rw [n0] at h2; cases h2
      · rw [q0] at h3; cases h3
    · cases h
  · cases h
def lineT (x : Smp) : List UInt8 := Lib.itoa x.t ++ 32 :: (Lib.itoa x.v ++ 32 :: wordF x.q)
theorem wordQ_F {q : Int} (h : 0 ≤ q ∧ q ≤ 2) : wordQ (wordF q) = some q := by
  have : q = 0 ∨ q = 1 ∨ q = 2 := by omega
  rcases this with rfl | rfl | rfl <;> decide
/-! ### texts -/
def lnsF (l : List UInt8) : List (List UInt8) := (splitL 10 l).dropLast
def remF (l : List UInt8) : List UInt8 := (splitL 10 l).getLastD []
theorem lns_cut {a : List UInt8} (b : List UInt8) (h : (10 : UInt8) ∉ a) : lnsF (a ++ 10 :: b) = a :: lnsF b ∧ remF (a ++ 10 :: b) = remF b := by
  unfold lnsF remF
  rw [splitL_cut b h]
  have h0 := splitL_ne 10 b
  cases hs : splitL 10 b with
  | nil => exact absurd hs h0
  | cons x t => exact ⟨rfl, by simp⟩
theorem lns_no {a : List UInt8} (h : (10 : UInt8) ∉ a) : lnsF a = [] ∧ remF a = a := by
  unfold lnsF remF
  rw [splitL_no h]
  exact ⟨rfl, rfl⟩
end Go.Proofs.YtflklkijfkmeiaaGreatDoor
