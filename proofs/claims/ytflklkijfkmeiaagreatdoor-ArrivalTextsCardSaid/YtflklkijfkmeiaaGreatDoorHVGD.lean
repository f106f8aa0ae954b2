/- Several texts in one: Holds: what is wrong with them, in the program and in the document's answer, and what follows. No condition. -/
import Derived.Test.YtflklkijfkmeiaaGreatDoorHVStr
import Derived.Test.YtflklkijfkmeiaaGreatDoorHVGA
/- Holds: what is wrong with them, in the program and in the document's answer. Condition: keys are short. -/
namespace Go.Proofs.YtflklkijfkmeiaaGreatDoor
open Go Go.RowKit
set_option maxRecDepth 100000
set_option linter.all false
set_option maxHeartbeats 1000000
variable {H : Hp} {K : AV → Hp → Prop}
def noS : ByteArray := ⟨#[]⟩
@[go_sem] theorem noS_fold : (⟨#[]⟩ : ByteArray) = noS := (rfl)
end Go.Proofs.YtflklkijfkmeiaaGreatDoor
/- Insertion sort: no program in sight. No condition. -/
namespace Go.Proofs.YtflklkijfkmeiaaGreatDoor
open Go Go.RowKit
set_option maxRecDepth 100000
set_option linter.all false
section
variable {α : Type} (lt : α → α → Bool)
def sinkG : Nat → List α → List α
  | 0, l => l
  | j + 1, l => match l[j + 1]?, l[j]? with
    | some x, some y => if lt x y = true then sinkG j ((l.set (j + 1) y).set j x) else l
    | _, _ => l
def isortGoG : Nat → Nat → List α → List α
  | 0, _, l => l
  | c + 1, i, l => isortGoG c (i + 1) (sinkG lt i l)
def isortG (l : List α) : List α := isortGoG lt (l.length - 1) 1 l
theorem sinkG_step (j : Nat) (l : List α) (h : j + 1 < l.length) : sinkG lt (j + 1) l = if lt l[j + 1] l[j] = true then sinkG lt j ((l.set (j + 1) l[j]).set j l[j + 1]) else l := by
  rw [sinkG, List.getElem?_eq_getElem h, List.getElem?_eq_getElem (by omega)]
theorem sinkG_len : ∀ (j : Nat) (l : List α), (sinkG lt j l).length = l.length
  | 0, _ => rfl
  | j + 1, l => by
    unfold sinkG
    split
    · split
      · rw [sinkG_len j]; simp
      · rfl
    · rfl
theorem isortGoG_len : ∀ (c i : Nat) (l : List α), (isortGoG lt c i l).length = l.length
  | 0, _, _ => rfl
  | c + 1, i, l => by rw [isortGoG, isortGoG_len c, sinkG_len]
theorem isortG_len (l : List α) : (isortG lt l).length = l.length := isortGoG_len lt _ _ _
def insR : List α → α → List α
  | [], x => [x]
  | y :: p, x => if lt x y = true then y :: insR p x else x :: y :: p
theorem insR_len (p : List α) (x : α) : (insR lt p x).length = p.length + 1 := by
  induction p with
  | nil => rfl
  | cons y p ih => unfold insR; split <;> simp [ih]
theorem sinkG_eq : ∀ (p r : List α) (x : α), sinkG lt p.length (p.reverse ++ x :: r) = (insR lt p x).reverse ++ r
  | [], r, x => rfl
  | y :: p, r, x => by
    have e : (y :: p).reverse ++ x :: r = p.reverse ++ y :: x :: r := by simp
    have g1 : (p.reverse ++ y :: x :: r)[p.length + 1]? = some x := by rw [List.getElem?_append_right (by simp)]; simp
    have g2 : (p.reverse ++ y :: x :: r)[p.length]? = some y := by rw [List.getElem?_append_right (by simp)]; simp
    have g3 : ((p.reverse ++ y :: x :: r).set (p.length + 1) y).set p.length x = p.reverse ++ x :: y :: r := by
      rw [List.set_append_right _ _ (by simp), List.set_append_right _ _ (by simp)]; simp
    rw [e, List.length_cons, sinkG, g1, g2]
    dsimp only
    rw [g3, insR]
    split
    · rw [sinkG_eq p (y :: r) x]; simp
    · simp
theorem isortGoG_eq : ∀ (r q : List α), isortGoG lt r.length q.length (q.reverse ++ r) = (r.foldl (insR lt) q).reverse
  | [], q => by simp [isortGoG]
  | x :: r, q => by
    rw [List.length_cons, isortGoG, sinkG_eq, List.foldl_cons]
    have := isortGoG_eq r (insR lt q x)
    rwa [insR_len] at this
theorem isortG_eq (l : List α) : isortG lt l = (l.foldl (insR lt) []).reverse := by
  cases l with
  | nil => rfl
  | cons a t => exact isortGoG_eq lt t [a]
theorem insR_mem (p : List α) (x z : α) : z ∈ insR lt p x ↔ z = x ∨ z ∈ p := by
  induction p with
  | nil => simp [insR]
  | cons y p ih =>
    unfold insR
    split
    · simp only [List.mem_cons, ih]; constructor <;> (intro h; rcases h with h | h | h <;> simp [h])
    · simp
theorem fold_ins_mem (l q : List α) (z : α) : z ∈ l.foldl (insR lt) q ↔ z ∈ l ∨ z ∈ q := by
  induction l generalizing q with
  | nil => simp
  | cons x l ih =>
    rw [List.foldl_cons, ih, insR_mem, List.mem_cons]
    exact ⟨by rintro (h | h | h) <;> simp [h], by rintro ((h | h) | h) <;> simp [h]⟩
theorem isortG_mem (l : List α) (z : α) : z ∈ isortG lt l ↔ z ∈ l := by
  rw [isortG_eq, List.mem_reverse, fold_ins_mem]; simp
end
end Go.Proofs.YtflklkijfkmeiaaGreatDoor
