/- Arrivals sorted: one list, whichever way they are sorted. No program in sight. -/
import Derived.Test.YtppmkgaobeccfaaGreatDoorHVArrR
namespace Go.Proofs.YtppmkgaobeccfaaGreatDoor
open Go Go.RowKit
set_option maxRecDepth 100000
set_option linter.all false
set_option maxHeartbeats 1000000
theorem insR_perm {α : Type} (lt : α → α → Bool) (x : α) : ∀ p : List α, (insR lt p x).Perm (x :: p)
  | [] => List.Perm.refl _
  | y :: p => by
    unfold insR
    split
    · exact ((insR_perm lt x p).cons y).trans (List.Perm.swap _ _ _)
    · exact List.Perm.refl _
theorem isortG_perm {α : Type} (lt : α → α → Bool) (l : List α) : (isortG lt l).Perm l := by
  rw [isortG_eq]
  refine (List.reverse_perm _).trans ?_
  have key : ∀ (l q : List α), (l.foldl (insR lt) q).Perm (l ++ q) := by
    intro l
    induction l with
    | nil => intro q; exact List.Perm.refl _
    | cons x l ih =>
      intro q
      rw [List.foldl_cons]
      refine (ih _).trans ?_
      refine ((insR_perm lt x q).append_left l).trans ?_
      exact List.perm_middle
  have := key l []
  rwa [List.append_nil] at this
theorem insR_sortedS {α : Type} {lt : α → α → Bool} (ht : ∀ x y z, lt x y = true → lt y z = true → lt x z = true) (hn : ∀ x y z, lt x y = false → lt y z = false → lt x z = false) (hi : ∀ x y, lt x y = true → lt y x = false) (x : α) : ∀ p : List α, p.Pairwise (fun a b => lt a b = false) → (insR lt p x).Pairwise (fun a b => lt a b = false)
  | [], _ => by simp [insR]
  | y :: p, h => by
    rw [List.pairwise_cons] at h
    unfold insR
    split
    · rename_i c
      rw [List.pairwise_cons]
      refine ⟨fun z hz => ?_, insR_sortedS ht hn hi x p h.2⟩
      rcases (insR_mem lt p x z).1 hz with rfl | hz
      · exact hi _ _ c
      · exact h.1 z hz
    · rename_i c
      have c : lt x y = false := by simpa using c
      rw [List.pairwise_cons, List.pairwise_cons]
      refine ⟨fun z hz => ?_, h⟩
      rcases List.mem_cons.1 hz with rfl | hz
      · exact c
      · exact hn _ _ _ c (h.1 z hz)
theorem isortG_sortedS {α : Type} {lt : α → α → Bool} (ht : ∀ x y z, lt x y = true → lt y z = true → lt x z = true) (hn : ∀ x y z, lt x y = false → lt y z = false → lt x z = false) (hi : ∀ x y, lt x y = true → lt y x = false) (l : List α) : (isortG lt l).Pairwise (fun a b => lt b a = false) := by
  rw [isortG_eq, List.pairwise_reverse]
  have key : ∀ (l q : List α), q.Pairwise (fun a b => lt a b = false) → (l.foldl (insR lt) q).Pairwise (fun a b => lt a b = false) := by
    intro l
    induction l with
    | nil => intro q h; exact h
    | cons x l ih => intro q h; exact ih _ (insR_sortedS ht hn hi x q h)
  exact key l [] List.Pairwise.nil
theorem cmpB_trans : ∀ a b c : List UInt8, Lib.compareBytes a b < 0 → Lib.compareBytes b c < 0 → Lib.compareBytes a c < 0
  | [], [], c, h, _ => by simp [Lib.compareBytes] at h
  | [], _ :: _, [], _, h => by simp [Lib.compareBytes] at h
  | [], _ :: _, _ :: _, _, _ => by simp [Lib.compareBytes]
  | _ :: _, [], _, h, _ => by simp [Lib.compareBytes] at h
  | _ :: _, _ :: _, [], _, h => by simp [Lib.compareBytes] at h
  | x :: a, y :: b, z :: c, h1, h2 => by
    have ih := cmpB_trans a b c
    unfold Lib.compareBytes at h1 h2 ⊢
    have tr : ∀ p q r : UInt8, p < q → q < r → p < r := fun p q r => UInt8.lt_trans
    have eq : ∀ p q : UInt8, ¬ p < q → ¬ q < p → p = q := fun p q h1 h2 => UInt8.le_antisymm (UInt8.not_lt.1 h2) (UInt8.not_lt.1 h1)
    by_cases a1 : x < y
    · by_cases b1 : y < z
      · rw [if_pos (tr _ _ _ a1 b1)]; omega
      · rw [if_neg b1] at h2
        by_cases b2 : z < y
        · rw [if_pos b2] at h2; omega
        · rw [eq _ _ b1 b2] at a1
          rw [if_pos a1]; omega
    · rw [if_neg a1] at h1
      by_cases a2 : y < x
      · rw [if_pos a2] at h1; omega
      · rw [if_neg a2] at h1
        have e := eq _ _ a1 a2
        subst e
        by_cases b1 : x < z
        · rw [if_pos b1]; omega
        · rw [if_neg b1] at h2 ⊢
          by_cases b2 : z < x
          · rw [if_pos b2] at h2; omega
          · rw [if_neg b2] at h2 ⊢
            exact ih h1 h2
theorem arLt_iff (a b : Arr) : arLt a b = true ↔ (a.t < b.t ∨ (a.t = b.t ∧ (cmpS a.nd b.nd < 0 ∨ (a.nd = b.nd ∧ a.p.n < b.p.n)))) := by
  unfold arLt arrC sgn
  rw [decide_eq_true_eq]
  have h1 := cmpS_eq a.nd b.nd
  by_cases h : a.t = b.t
  · rw [if_neg (by simp [h])]
    by_cases h2 : a.nd = b.nd
    · rw [if_neg (by simp [h2])]
      have h4 := h1.2 h2
      constructor
      · intro h3
        refine Or.inr ⟨h, Or.inr ⟨h2, ?_⟩⟩
        split at h3
        · assumption
        · split at h3 <;> omega
      · rintro (h3 | ⟨_, h3 | ⟨_, h3⟩⟩)
        · omega
        · omega
        · rw [if_pos h3]; omega
    · rw [if_pos h2]
      constructor
      · intro h3; exact Or.inr ⟨h, Or.inl h3⟩
      · rintro (h3 | ⟨_, h3 | ⟨h3, _⟩⟩)
        · omega
        · exact h3
        · exact absurd h3 h2
  · rw [if_pos h]
    split
    · simp; omega
    · split
      · simp; omega
      · omega
theorem arLt_not (a b : Arr) : arLt a b = false ↔ ¬ (a.t < b.t ∨ (a.t = b.t ∧ (cmpS a.nd b.nd < 0 ∨ (a.nd = b.nd ∧ a.p.n < b.p.n)))) := by
  rw [← arLt_iff, Bool.not_eq_true]
theorem cmpS_trans (a b c : ByteArray) (h1 : cmpS a b < 0) (h2 : cmpS b c < 0) : cmpS a c < 0 := cmpB_trans _ _ _ h1 h2
theorem cmpS_tri (a b : ByteArray) : cmpS a b < 0 ∨ a = b ∨ cmpS b a < 0 := by
  have h1 := cmpS_flip a b
  have h2 := cmpS_eq a b
  by_cases h : cmpS a b = 0
  · exact Or.inr (Or.inl (h2.1 h))
  · omega
theorem cmpS_rfl (a : ByteArray) : cmpS a a = 0 := (cmpS_eq a a).2 rfl
theorem arLt_trans (x y z : Arr) (h1 : arLt x y = true) (h2 : arLt y z = true) : arLt x z = true := by
  rw [arLt_iff] at *
  rcases h1 with h1 | ⟨e1, h1 | ⟨n1, h1⟩⟩ <;> rcases h2 with h2 | ⟨e2, h2 | ⟨n2, h2⟩⟩
  · left; omega
  · left; omega
  · left; omega
  · left; omega
  · exact Or.inr ⟨by omega, Or.inl (cmpS_trans _ _ _ h1 h2)⟩
  · exact Or.inr ⟨by omega, Or.inl (n2 ▸ h1)⟩
  · left; omega
  · exact Or.inr ⟨by omega, Or.inl (n1 ▸ h2)⟩
  · exact Or.inr ⟨by omega, Or.inr ⟨n1.trans n2, by omega⟩⟩
theorem arLt_ntrans (x y z : Arr) (h1 : arLt x y = false) (h2 : arLt y z = false) : arLt x z = false := by
  cases h : arLt x z with
  | false => rfl
  | true =>
    exfalso
    rw [arLt_not] at h1 h2
    rw [arLt_iff] at h
    have hh : (x.t < y.t ∨ (x.t = y.t ∧ (cmpS x.nd y.nd < 0 ∨ (x.nd = y.nd ∧ x.p.n < y.p.n)))) ∨ (y.t < z.t ∨ (y.t = z.t ∧ (cmpS y.nd z.nd < 0 ∨ (y.nd = z.nd ∧ y.p.n < z.p.n)))) := by
      rcases h with h | ⟨e, h⟩
      · by_cases c : x.t < y.t
        · exact Or.inl (Or.inl c)
        · exact Or.inr (Or.inl (by omega))
      · by_cases c : x.t < y.t
        · exact Or.inl (Or.inl c)
        by_cases c2 : y.t < x.t
        · exact Or.inr (Or.inl (by omega))
        have e1 : x.t = y.t := by omega
        have e2 : y.t = z.t := by omega
        rcases cmpS_tri x.nd y.nd with c3 | c3 | c3
        · exact Or.inl (Or.inr ⟨e1, Or.inl c3⟩)
        · rcases h with h | ⟨n, h⟩
          · exact Or.inr (Or.inr ⟨e2, Or.inl (c3 ▸ h)⟩)
          · by_cases c4 : x.p.n < y.p.n
            · exact Or.inl (Or.inr ⟨e1, Or.inr ⟨c3, c4⟩⟩)
            · exact Or.inr (Or.inr ⟨e2, Or.inr ⟨c3.symm.trans n, by omega⟩⟩)
        · rcases h with h | ⟨n, h⟩
          · exact Or.inr (Or.inr ⟨e2, Or.inl (cmpS_trans _ _ _ c3 h)⟩)
          · exact Or.inr (Or.inr ⟨e2, Or.inl (n ▸ c3)⟩)
    rcases hh with hh | hh
    · exact h1 hh
    · exact h2 hh
theorem arLt_irrefl (x : Arr) : arLt x x = false := by
  rw [arLt_not]
  have := cmpS_rfl x.nd
  rintro (h | ⟨_, h | ⟨_, h⟩⟩) <;> omega
theorem arLt_asymm (x y : Arr) (h : arLt x y = true) : arLt y x = false := by
  cases h2 : arLt y x with
  | false => rfl
  | true =>
    have := arLt_trans x y x h h2
    rw [arLt_irrefl] at this
    cases this
theorem arrC_zero {a b : Arr} (h1 : arLt a b = false) (h2 : arLt b a = false) : a.t = b.t ∧ sameK a b = true := by
  rw [arLt_not] at h1 h2
  have ht : a.t = b.t := by
    rcases Int.lt_trichotomy a.t b.t with h | h | h
    · exact absurd (Or.inl h) h1
    · exact h
    · exact absurd (Or.inl h) h2
  refine ⟨ht, sameK_iff.2 ?_⟩
  rcases cmpS_tri a.nd b.nd with h | h | h
  · exact absurd (Or.inr ⟨ht, Or.inl h⟩) h1
  · refine ⟨h, ?_⟩
    rcases Int.lt_trichotomy a.p.n b.p.n with g | g | g
    · exact absurd (Or.inr ⟨ht, Or.inr ⟨h, g⟩⟩) h1
    · exact g
    · exact absurd (Or.inr ⟨ht.symm, Or.inr ⟨h.symm, g⟩⟩) h2
  · exact absurd (Or.inr ⟨ht.symm, Or.inl h⟩) h2
/-- two of one node and number with different packets -/
def Cf (l : List Arr) : Prop := ∃ x ∈ l, ∃ y ∈ l, sameK x y = true ∧ x.p ≠ y.p
theorem sameK_symm {a b : Arr} (h : sameK a b = true) : sameK b a = true := by
  have := sameK_iff.1 h
  exact sameK_iff.2 ⟨this.1.symm, this.2.symm⟩
theorem cfF_iff : ∀ (l pre : List Arr), cfF pre l = true ↔ ∃ x ∈ l, ∃ y, (y ∈ pre ∨ y ∈ l) ∧ sameK x y = true ∧ x.p ≠ y.p
  | [], pre => by simp [cfF]
  | a :: t, pre => by
    rw [cfF, Bool.or_eq_true, cfF_iff t (pre ++ [a]), List.any_eq_true]
    constructor
    · rintro (⟨b, hb, h⟩ | ⟨x, hx, y, hy, h⟩)
      · rw [Bool.and_eq_true] at h
        exact ⟨a, by simp, b, Or.inl hb, h.1, by simpa using h.2⟩
      · refine ⟨x, List.mem_cons_of_mem _ hx, y, ?_, h⟩
        rcases hy with hy | hy
        · rcases List.mem_append.1 hy with hy | hy
          · exact Or.inl hy
          · simp at hy; subst hy; exact Or.inr (by simp)
        · exact Or.inr (List.mem_cons_of_mem _ hy)
    · rintro ⟨x, hx, y, hy, h1, h2⟩
      rcases List.mem_cons.1 hx with rfl | hx
      · rcases hy with hy | hy
        · exact Or.inl ⟨y, hy, by rw [Bool.and_eq_true]; exact ⟨h1, by simpa using h2⟩⟩
        · rcases List.mem_cons.1 hy with rfl | hy
          · exact absurd rfl h2
          · exact Or.inr ⟨y, hy, x, Or.inl (by simp), sameK_symm h1, fun e => h2 e.symm⟩
      · refine Or.inr ⟨x, hx, y, ?_, h1, h2⟩
        rcases hy with hy | hy
        · exact Or.inl (by simp [hy])
        · rcases List.mem_cons.1 hy with rfl | hy
          · exact Or.inl (by simp)
          · exact Or.inr hy
theorem cfF_Cf (l : List Arr) : cfF [] l = true ↔ Cf l := by
  rw [cfF_iff]
  unfold Cf
  simp
theorem mgM_mem (a b : List Arr) (x : Arr) : x ∈ mgM a b ↔ x ∈ a ++ b := by
  unfold mgM
  rw [cplF_mem, isortG_mem]
end Go.Proofs.YtppmkgaobeccfaaGreatDoor
