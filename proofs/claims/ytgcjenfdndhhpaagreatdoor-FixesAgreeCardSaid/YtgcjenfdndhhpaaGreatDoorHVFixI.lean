/- Fixes of two lists: the program's union is the document's. No program in sight. -/
import Derived.Test.YtgcjenfdndhhpaaGreatDoorHVFixG
import Derived.Test.YtgcjenfdndhhpaaGreatDoorHVArrS
namespace Go.Proofs.YtgcjenfdndhhpaaGreatDoor
open Go Go.RowKit
set_option maxRecDepth 100000
set_option linter.all false
def fxLt (x y : Fix) : Bool := decide (fxC x y < 0)
theorem fxLt_iff (a b : Fix) : fxLt a b = true ↔ (a.made < b.made ∨ (a.made = b.made ∧ (cmpS a.by_ b.by_ < 0 ∨ (a.by_ = b.by_ ∧ a.no < b.no)))) := by
  unfold fxLt fxC sgn
  rw [decide_eq_true_eq]
  have h1 := cmpS_eq a.by_ b.by_
  by_cases h : a.made = b.made
  · rw [if_neg (by simp [h])]
    by_cases h2 : a.by_ = b.by_
    · rw [if_neg (by simp [h2])]
      have h4 := h1.2 h2
      constructor
      · intro h3
        refine Or.inr ⟨h, Or.inr ⟨h2, ?_⟩⟩
        split at h3
        · assumption
        · split at h3 <;> omega
      · rintro (h3 | ⟨_, h3 | ⟨_, h3⟩⟩)
        · omega
        · omega
        · rw [if_pos h3]; omega
    · rw [if_pos h2]
      constructor
      · intro h3; exact Or.inr ⟨h, Or.inl h3⟩
      · rintro (h3 | ⟨_, h3 | ⟨h3, _⟩⟩)
        · omega
        · exact h3
        · exact absurd h3 h2
  · rw [if_pos h]
    split
    · simp; omega
    · split
      · simp; omega
      · omega
theorem fxLt_not (a b : Fix) : fxLt a b = false ↔ ¬ (a.made < b.made ∨ (a.made = b.made ∧ (cmpS a.by_ b.by_ < 0 ∨ (a.by_ = b.by_ ∧ a.no < b.no)))) := by
  rw [← fxLt_iff, Bool.not_eq_true]
theorem fxLt_trans (x y z : Fix) (h1 : fxLt x y = true) (h2 : fxLt y z = true) : fxLt x z = true := by
  rw [fxLt_iff] at *
  rcases h1 with h1 | ⟨e1, h1 | ⟨n1, h1⟩⟩ <;> rcases h2 with h2 | ⟨e2, h2 | ⟨n2, h2⟩⟩
  · left; omega
  · left; omega
  · left; omega
  · left; omega
  · exact Or.inr ⟨by omega, Or.inl (cmpS_trans _ _ _ h1 h2)⟩
  · exact Or.inr ⟨by omega, Or.inl (n2 ▸ h1)⟩
  · left; omega
  · exact Or.inr ⟨by omega, Or.inl (n1 ▸ h2)⟩
  · exact Or.inr ⟨by omega, Or.inr ⟨n1.trans n2, by omega⟩⟩
theorem fxLt_ntrans (x y z : Fix) (h1 : fxLt x y = false) (h2 : fxLt y z = false) : fxLt x z = false := by
  cases h : fxLt x z with
  | false => rfl
  | true =>
    exfalso
    rw [fxLt_not] at h1 h2
    rw [fxLt_iff] at h
    have hh : (x.made < y.made ∨ (x.made = y.made ∧ (cmpS x.by_ y.by_ < 0 ∨ (x.by_ = y.by_ ∧ x.no < y.no)))) ∨ (y.made < z.made ∨ (y.made = z.made ∧ (cmpS y.by_ z.by_ < 0 ∨ (y.by_ = z.by_ ∧ y.no < z.no)))) := by
      rcases h with h | ⟨e, h⟩
      · by_cases c : x.made < y.made
        · exact Or.inl (Or.inl c)
        · exact Or.inr (Or.inl (by omega))
      · by_cases c : x.made < y.made
        · exact Or.inl (Or.inl c)
        by_cases c2 : y.made < x.made
        · exact Or.inr (Or.inl (by omega))
        have e1 : x.made = y.made := by omega
        have e2 : y.made = z.made := by omega
        rcases cmpS_tri x.by_ y.by_ with c3 | c3 | c3
        · exact Or.inl (Or.inr ⟨e1, Or.inl c3⟩)
        · rcases h with h | ⟨n, h⟩
          · exact Or.inr (Or.inr ⟨e2, Or.inl (c3 ▸ h)⟩)
          · by_cases c4 : x.no < y.no
            · exact Or.inl (Or.inr ⟨e1, Or.inr ⟨c3, c4⟩⟩)
            · exact Or.inr (Or.inr ⟨e2, Or.inr ⟨c3.symm.trans n, by omega⟩⟩)
        · rcases h with h | ⟨n, h⟩
          · exact Or.inr (Or.inr ⟨e2, Or.inl (cmpS_trans _ _ _ c3 h)⟩)
          · exact Or.inr (Or.inr ⟨e2, Or.inl (n ▸ c3)⟩)
    rcases hh with hh | hh
    · exact h1 hh
    · exact h2 hh
theorem fxLt_irrefl (x : Fix) : fxLt x x = false := by
  rw [fxLt_not]
  have := cmpS_rfl x.by_
  rintro (h | ⟨_, h | ⟨_, h⟩⟩) <;> omega
theorem fxLt_asymm (x y : Fix) (h : fxLt x y = true) : fxLt y x = false := by
  cases h2 : fxLt y x with
  | false => rfl
  | true =>
    have := fxLt_trans x y x h h2
    rw [fxLt_irrefl] at this
    cases this
theorem sameX_iff {a b : Fix} : sameX a b = true ↔ a.by_ = b.by_ ∧ a.no = b.no := by
  unfold sameX
  rw [Bool.and_eq_true, decide_eq_true_eq, decide_eq_true_eq]
theorem sameX_symm {a b : Fix} (h : sameX a b = true) : sameX b a = true := sameX_iff.2 ⟨(sameX_iff.1 h).1.symm, (sameX_iff.1 h).2.symm⟩
theorem fxC_zero {a b : Fix} (h1 : fxLt a b = false) (h2 : fxLt b a = false) : sameX a b = true := by
  rw [fxLt_not] at h1 h2
  have ht : a.made = b.made := by
    rcases Int.lt_trichotomy a.made b.made with h | h | h
    · exact absurd (Or.inl h) h1
    · exact h
    · exact absurd (Or.inl h) h2
  refine sameX_iff.2 ?_
  rcases cmpS_tri a.by_ b.by_ with h | h | h
  · exact absurd (Or.inr ⟨ht, Or.inl h⟩) h1
  · refine ⟨h, ?_⟩
    rcases Int.lt_trichotomy a.no b.no with g | g | g
    · exact absurd (Or.inr ⟨ht, Or.inr ⟨h, g⟩⟩) h1
    · exact g
    · exact absurd (Or.inr ⟨ht.symm, Or.inr ⟨h.symm, g⟩⟩) h2
  · exact absurd (Or.inr ⟨ht.symm, Or.inl h⟩) h2
theorem twG_iff : ∀ (l pre : List Fix), twG pre l = false ↔ (∀ x ∈ pre, ∀ y ∈ l, sameX x y = false) ∧ l.Pairwise (fun x y => sameX x y = false)
  | [], pre => by simp [twG]
  | y :: r, pre => by
    rw [twG, Bool.or_eq_false_iff, twG_iff r (pre ++ [y]), List.pairwise_cons, List.any_eq_false]
    constructor
    · rintro ⟨h1, h2, h3⟩
      refine ⟨fun x hx z hz => ?_, fun z hz => h2 y (by simp) z hz, h3⟩
      rcases List.mem_cons.1 hz with rfl | hz
      · simpa using h1 x hx
      · exact h2 x (by simp [hx]) z hz
    · rintro ⟨h1, h2, h3⟩
      refine ⟨fun x hx => by simp [h1 x hx y (by simp)], fun x hx z hz => ?_, h3⟩
      rcases List.mem_append.1 hx with hx | hx
      · exact h1 x hx z (by simp [hz])
      · simp only [List.mem_singleton] at hx
        subst hx
        exact h2 z hz
theorem twF_iff (l : List Fix) : twF l = false ↔ l.Pairwise (fun x y => sameX x y = false) := by
  unfold twF
  rw [twG_iff]
  simp
/-- two of one author and number that differ -/
def CfX (l : List Fix) : Prop := ∃ x ∈ l, ∃ y ∈ l, sameX x y = true ∧ x ≠ y
theorem apart {l : List Fix} (h : l.Pairwise (fun x y => sameX x y = false)) : ¬ CfX l := by
  rintro ⟨x, hx, y, hy, h1, h2⟩
  obtain ⟨i, hi, rfl⟩ := List.mem_iff_getElem.1 hx
  obtain ⟨j, hj, rfl⟩ := List.mem_iff_getElem.1 hy
  rcases Nat.lt_trichotomy i j with h3 | h3 | h3
  · have := List.pairwise_iff_getElem.1 h i j hi hj h3
    rw [h1] at this; cases this
  · subst h3; exact h2 rfl
  · have := List.pairwise_iff_getElem.1 h j i hj hi h3
    rw [sameX_symm h1] at this; cases this
/-- what the program makes of two lists -/
def mgX (a b : List Fix) : List Fix := cplF (isortG fxLt (a ++ b))
theorem isortG_memX {l : List Fix} {x : Fix} : x ∈ isortG fxLt l ↔ x ∈ l := (isortG_perm fxLt l).mem_iff
theorem mgX_mem {a b : List Fix} {x : Fix} : x ∈ mgX a b ↔ x ∈ a ++ b := by
  unfold mgX
  rw [cplF_mem, isortG_memX]
theorem mgX_lt {a b : List Fix} (h : ¬ CfX (a ++ b)) : (mgX a b).Pairwise (fun x y => fxLt x y = true) := by
  have hS := isortG_sortedS fxLt_trans fxLt_ntrans fxLt_asymm (a ++ b)
  have key : ∀ x ∈ a ++ b, ∀ y ∈ a ++ b, fxLt x y = false → fxLt y x = false → x = y := by
    intro x hx y hy h1 h2
    by_cases e : x = y
    · exact e
    · exact absurd ⟨x, hx, y, hy, fxC_zero h1 h2, e⟩ h
  have hS2 : (isortG fxLt (a ++ b)).Pairwise (fun x y => fxLt y x = false ∧ x ∈ a ++ b ∧ y ∈ a ++ b) := by
    refine List.Pairwise.imp_of_mem (fun {x y} hx hy hxy => ?_) hS
    exact ⟨hxy, isortG_memX.1 hx, isortG_memX.1 hy⟩
  have := cplF_lt (r := fun x y => fxLt y x = false ∧ x ∈ a ++ b ∧ y ∈ a ++ b) (fun x y h1 h2 => key x h1.2.1 y h1.2.2 h2.1 h1.1) hS2
  refine this.imp (fun {x y} h => ?_)
  obtain ⟨⟨h1, h2, h3⟩, h4⟩ := h
  cases h5 : fxLt x y with
  | true => rfl
  | false => exact absurd (key x h2 y h3 h5 h1) h4
theorem sorted_perm {l m : List Fix} (hp : l.Perm m) (hl : l.Pairwise (fun x y => ¬ fxC y x < 0)) (hm : m.Pairwise (fun x y => fxLt x y = true)) : l = m := by
  refine List.Perm.eq_of_pairwise (le := fun x y => fxLt y x = false) ?_ (hl.imp fun h => by unfold fxLt; simpa using h) (hm.imp fun h => fxLt_asymm _ _ h) hp
  intro x y hx hy h1 h2
  have hx := hp.mem_iff.1 hx
  obtain ⟨i, hi, rfl⟩ := List.mem_iff_getElem.1 hx
  obtain ⟨j, hj, rfl⟩ := List.mem_iff_getElem.1 hy
  rcases Nat.lt_trichotomy i j with h3 | h3 | h3
  · have := List.pairwise_iff_getElem.1 hm i j hi hj h3
    rw [this] at h2; cases h2
  · subst h3; rfl
  · have := List.pairwise_iff_getElem.1 hm j i hj hi h3
    rw [this] at h1; cases h1
end Go.Proofs.YtgcjenfdndhhpaaGreatDoor
