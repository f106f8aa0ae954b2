/- Both ways to ask whether data is kept are one: no program in sight. Condition: the holds' times are right. -/
import Derived.Test.YtkmkkjlfnobciaaGreatVKeepsR
namespace Go.Proofs.YtkmkkjlfnobciaaGreat
open Go Go.RowKit
set_option maxRecDepth 100000
set_option linter.all false
theorem foldU_ge : ∀ (l : List Hold) (a : Int), a ≤ l.foldl stepU a
  | [], a => Int.le_refl _
  | x :: l, a => by
    rw [List.foldl_cons]
    refine Int.le_trans ?_ (foldU_ge l _)
    unfold stepU; split <;> omega
theorem foldU_is : ∀ (l : List Hold) (a : Int), l.foldl stepU a = a ∨ ∃ y ∈ l, l.foldl stepU a = y.ends - 1
  | [], a => .inl rfl
  | x :: l, a => by
    rw [List.foldl_cons]
    rcases foldU_is l (stepU a x) with h | ⟨y, hy, h⟩
    · rw [h]
      unfold stepU
      split
      · rcases Int.le_total a (x.ends - 1) with h1 | h1
        · exact .inr ⟨x, by simp, by omega⟩
        · exact .inl (by omega)
      · exact .inl rfl
    · exact .inr ⟨y, by simp [hy], h⟩
/-- up to there all times are held -/
theorem foldU_all : ∀ (l : List Hold) (a u : Int), a < u → u ≤ l.foldl stepU a → ∃ y ∈ l, y.made ≤ u ∧ u < y.ends
  | [], a, u, h1, h2 => by simp at h2; omega
  | x :: l, a, u, h1, h2 => by
    rw [List.foldl_cons] at h2
    by_cases h3 : stepU a x < u
    · obtain ⟨y, hy, h4⟩ := foldU_all l _ u h3 h2
      exact ⟨y, by simp [hy], h4⟩
    · refine ⟨x, by simp, ?_⟩
      unfold stepU at h3
      split at h3 <;> omega
/-- the next time is not held, if the holds are sorted -/
theorem foldU_next : ∀ (l : List Hold) (a : Int), l.Pairwise (fun x y => x.made ≤ y.made) → ∀ y ∈ l, ¬(y.made ≤ l.foldl stepU a + 1 ∧ l.foldl stepU a + 1 < y.ends)
  | [], _, _, y, hy => by simp at hy
  | x :: l, a, h, y, hy => by
    rw [List.pairwise_cons] at h
    rw [List.foldl_cons]
    rcases List.mem_cons.1 hy with rfl | hy
    · by_cases h1 : y.made ≤ a + 1
      · have h2 := foldU_ge l (stepU a y)
        have h3 : y.ends - 1 ≤ stepU a y := by unfold stepU; rw [if_pos h1]; omega
        omega
      · have h2 : stepU a y = a := by unfold stepU; rw [if_neg h1]
        have h3 : ∀ (l : List Hold), (∀ z ∈ l, y.made ≤ z.made) → l.foldl stepU a = a := by
          intro l
          induction l with
          | nil => intro _; rfl
          | cons z l ih =>
            intro hz
            rw [List.foldl_cons]
            have : stepU a z = a := by unfold stepU; rw [if_neg (by have := hz z (by simp); omega)]
            rw [this]
            exact ih (fun w hw => hz w (by simp [hw]))
        rw [h2, h3 l h.1]
        omega
    · exact foldU_next l _ h.2 y hy
theorem keep_eq (x : Level) (h : List Hold) (tag : ByteArray) (m t : Int) (hx : x.ok) (hm : 0 ≤ m) (hm2 : m ≤ 400000000000) (hv : ∀ y ∈ h, y.t0 < y.t1) : keepRB x h tag m t = keepB x (ofF h tag) m t := by
  have hb := ivl_bd x m hx hm hm2
  unfold keepRB keepB untilF
  generalize (ivl x m).1 = w0 at *
  generalize (ivl x m).2 = w1 at *
  have hS : ∀ y, y ∈ isortG madeLt ((ofF h tag).filter (meets w0 w1)) ↔ y ∈ h ∧ (y.tag = noS ∨ y.tag = tag) ∧ y.t0 < w1 ∧ w0 < y.t1 := by
    intro y
    rw [isortG_mem, List.mem_filter, ofF, List.mem_filter]
    simp only [meets, decide_eq_true_eq]
    constructor
    · rintro ⟨⟨h1, h2⟩, h3⟩; exact ⟨h1, h2, by omega, by omega⟩
    · rintro ⟨h1, h2, h3, h4⟩; have := hv y h1; exact ⟨⟨h1, h2⟩, by omega⟩
  have hsort := isortG_sorted madeLt (fun y => y.made) (fun _ _ => rfl) ((ofF h tag).filter (meets w0 w1))
  generalize isortG madeLt ((ofF h tag).filter (meets w0 w1)) = S at *
  have hheld : ∀ u, heldB h tag w0 w1 u = true ↔ ∃ y ∈ S, y.made ≤ u ∧ u < y.ends := by
    intro u
    unfold heldB
    rw [List.any_eq_true]
    simp only [hold1, decide_eq_true_eq]
    constructor
    · rintro ⟨y, h1, h2, h3, h4, h5, h6⟩; exact ⟨y, (hS y).2 ⟨h1, h2, h3, h4⟩, h5, h6⟩
    · rintro ⟨y, h1, h5, h6⟩
      obtain ⟨h1, h2, h3, h4⟩ := (hS y).1 h1
      exact ⟨y, h1, h2, h3, h4, h5, h6⟩
  have hge := foldU_ge S (w1 + x.keep)
  have hnx := foldU_next S (w1 + x.keep) hsort
  have his := foldU_is S (w1 + x.keep)
  have hall := fun u => foldU_all S (w1 + x.keep) u
  generalize S.foldl stepU (w1 + x.keep) = U at *
  rw [Bool.eq_iff_iff]
  split
  · simp only [true_iff, decide_eq_true_eq]; omega
  · rename_i c
    rw [decide_eq_true_eq, Bool.not_eq_true', List.any_eq_false]
    constructor
    · intro h1
      apply Classical.byContradiction
      intro h2
      have hmem : U + 1 ∈ timesF (w1 + x.keep + 1) t h := by
        unfold timesF
        rw [List.mem_append]
        rcases his with h3 | ⟨y, hy, h3⟩
        · left; simp; omega
        · right
          rw [List.mem_flatMap]
          exact ⟨y, ((hS y).1 hy).1, by simp; omega⟩
      have h4 := h1 _ hmem
      rw [Bool.not_eq_true', Bool.not_eq_false] at h4
      obtain ⟨y, hy, h5⟩ := (hheld _).1 h4
      exact hnx y hy h5
    · intro h1 u hu
      rw [Bool.not_eq_true', Bool.not_eq_false]
      have hu2 : w1 + x.keep + 1 ≤ u ∧ u ≤ t := by
        unfold timesF at hu
        rw [List.mem_append, List.mem_flatMap] at hu
        rcases hu with h3 | ⟨y, _, h3⟩
        · simp at h3; omega
        · simp at h3; omega
      exact (hheld u).2 (hall u (by omega) (by omega))
end Go.Proofs.YtkmkkjlfnobciaaGreat
