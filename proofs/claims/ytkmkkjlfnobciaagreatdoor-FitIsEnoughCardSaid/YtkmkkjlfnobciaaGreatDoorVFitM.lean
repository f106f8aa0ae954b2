/- Levels that are made to fit stay right ones: no program in sight. No condition. -/
import Derived.Test.YtkmkkjlfnobciaaGreatDoorVMath
namespace Go.Proofs.YtkmkkjlfnobciaaGreatDoor
open Go Go.RowKit
set_option maxRecDepth 100000
set_option linter.all false
theorem errGo_of {α : Type} (f : Nat → α → α → Int) (p0 : α) (l : List α) (h : ∀ k (hk : k < l.length), f k (prv p0 l k) l[k] = 0) : errGo f 0 p0 l = 0 := by
  have key : ∀ d k, k + d = l.length → errGo f k (prv p0 l k) (l.drop k) = 0 := by
    intro d
    induction d with
    | zero => intro k hk; exact errGo_end f _ l k (by omega)
    | succ d ih =>
      intro k hk
      rw [errGo_step f p0 l k (by omega), if_pos (h k (by omega))]
      exact ih (k + 1) (by omega)
  have := key l.length 0 (by omega)
  rwa [prv_zero, List.drop_zero] at this
theorem errGo_all0 {α : Type} (f : Nat → α → α → Int) (p0 : α) (l : List α) (h : errGo f 0 p0 l = 0) : ∀ k (hk : k < l.length), f k (prv p0 l k) l[k] = 0 := by
  have key : ∀ k, k ≤ l.length → errGo f k (prv p0 l k) (l.drop k) = 0 := by
    intro k
    induction k with
    | zero => intro _; exact h
    | succ k ih =>
      intro hk
      have h1 := ih (by omega)
      rw [errGo_step f p0 l k (by omega)] at h1
      split at h1
      · exact h1
      · rename_i h2; exact absurd h1 h2
  intro k hk
  have h1 := key k (by omega)
  rw [errGo_step f p0 l k hk] at h1
  split at h1
  · assumption
  · exact h1
theorem lvF_all {l : List Level} (h : lvF l = 0) : ∀ k (hk : k < l.length), lvErr k (prv ⟨0, 0⟩ l k) l[k] = 0 := by
  unfold lvF at h
  split at h
  · cases h
  · split at h
    · cases h
    · exact errGo_all0 _ _ _ h
theorem lvErr_ok {i : Nat} {p x : Level} (h : lvErr i p x = 0) : (x.step ≠ 0 → isStep x.step) ∧ 1 ≤ x.keep ∧ x.keep ≤ 345686400000 ∧ (i = 0 ↔ x.step = 0) ∧ (0 < i → p.step < x.step ∧ p.keep < x.keep) ∧ (1 < i → x.step % p.step = 0) := by
  unfold lvErr at h
  split at h
  · cases h
  · rename_i h1
    split at h
    · cases h
    · rename_i h2
      split at h
      · cases h
      · rename_i h3
        split at h
        · cases h
        · rename_i h4
          refine ⟨fun e => Classical.byContradiction fun n => h1 (.inl ⟨e, n⟩), by omega, by omega, by omega, by omega, by omega⟩
theorem lvErr_of {i : Nat} {p x : Level} (h1 : x.step ≠ 0 → isStep x.step) (h2 : 1 ≤ x.keep) (h3 : x.keep ≤ 345686400000) (h4 : i = 0 ↔ x.step = 0) (h5 : 0 < i → p.step < x.step ∧ p.keep < x.keep) (h6 : 1 < i → x.step % p.step = 0) : lvErr i p x = 0 := by
  unfold lvErr
  rw [if_neg (by rintro (⟨a, b⟩ | h | h); exact b (h1 a); all_goals omega), if_neg (by omega), if_neg (by rintro ⟨a, b⟩; have := h5 a; omega), if_neg (by rintro ⟨a, b⟩; exact b (h6 a))]
theorem lvF_set {l : List Level} {i : Nat} {k' : Int} (hl : lvF l = 0) (hi : i < l.length) (h1 : k' ≤ l[i].keep) (h2 : 1 ≤ k') (h3 : ∀ h : 0 < i, (l[i - 1]'(by omega)).keep < k') : lvF (l.set i ⟨l[i].step, k'⟩) = 0 := by
  have h6 : l.length ≤ 6 := by
    unfold lvF at hl
    split at hl
    · cases hl
    · split at hl
      · cases hl
      · omega
  have hall := lvF_all hl
  unfold lvF
  rw [if_neg (by rw [List.length_set]; omega), if_neg (by rw [List.length_set]; omega)]
  refine errGo_of _ _ _ fun k hk => ?_
  rw [List.length_set] at hk
  obtain ⟨a1, a2, a3, a4, a5, a6⟩ := lvErr_ok (hall k hk)
  have ep : k = 0 ∨ ∃ j, k = j + 1 ∧ j < l.length := by
    cases k with
    | zero => exact .inl rfl
    | succ j => exact .inr ⟨j, rfl, by omega⟩
  by_cases hki : k = i
  · subst hki
    rw [List.getElem_set_self]
    refine lvErr_of a1 h2 (by dsimp only; omega) a4 (fun h => ?_) (fun h => ?_)
    · rcases ep with rfl | ⟨j, rfl, hj⟩
      · omega
      · have h4 := h3 h
        have h5 := a5 h
        rw [prv_succ _ _ _ (by simpa using hj), List.getElem_set_ne (by omega)]
        rw [prv_succ _ _ _ hj] at h5
        exact ⟨h5.1, by simpa using h4⟩
    · rcases ep with rfl | ⟨j, rfl, hj⟩
      · omega
      · have h5 := a6 h
        rw [prv_succ _ _ _ (by simpa using hj), List.getElem_set_ne (by omega)]
        rw [prv_succ _ _ _ hj] at h5
        exact h5
  · rw [List.getElem_set_ne (Ne.symm hki)]
    refine lvErr_of a1 a2 a3 a4 (fun h => ?_) (fun h => ?_)
    · rcases ep with rfl | ⟨j, rfl, hj⟩
      · omega
      · have h5 := a5 h
        rw [prv_succ _ _ _ hj] at h5
        rw [prv_succ _ _ _ (by simpa using hj)]
        by_cases hji : j = i
        · subst hji
          rw [List.getElem_set_self]
          exact ⟨h5.1, by dsimp only; omega⟩
        · rw [List.getElem_set_ne (Ne.symm hji)]; exact h5
    · rcases ep with rfl | ⟨j, rfl, hj⟩
      · omega
      · have h5 := a6 h
        rw [prv_succ _ _ _ hj] at h5
        rw [prv_succ _ _ _ (by simpa using hj)]
        by_cases hji : j = i
        · subst hji
          rw [List.getElem_set_self]
          exact h5
        · rw [List.getElem_set_ne (Ne.symm hji)]; exact h5
/-- the same levels, kept no longer -/
def Down (l l' : List Level) : Prop := l'.length = l.length ∧ ∀ k (h : k < l.length) (h' : k < l'.length), l'[k].step = l[k].step ∧ l'[k].keep ≤ l[k].keep
theorem Down.refl (l : List Level) : Down l l := ⟨rfl, fun _ _ _ => ⟨rfl, Int.le_refl _⟩⟩
theorem fitGo_right (rate quota : Int) : ∀ (n i : Nat) (least : Int) (l : List Level), lvF l = 0 → n + i = l.length → 1 ≤ least → (i = 0 → least = 1) → (∀ h : 0 < i ∧ i - 1 < l.length, least = l[i - 1].keep + 1) → lvF (fitGo rate quota n i least l) = 0 ∧ Down l (fitGo rate quota n i least l)
  | 0, i, least, l, hl, _, _, _, _ => ⟨hl, Down.refl l⟩
  | n + 1, i, least, l, hl, hn, h1, h0, hp => by
    by_cases hc : costs l rate ≤ quota
    · have e : fitGo rate quota (n + 1) i least l = l := by simp [fitGo, hc]
      rw [e]; exact ⟨hl, Down.refl l⟩
    · have hi : i < l.length := by omega
      rw [fitGo_step hc hi]
      have hlow : least ≤ l[i].keep := by
        obtain ⟨a1, a2, a3, a4, a5, a6⟩ := lvErr_ok (lvF_all hl i hi)
        rcases Nat.eq_zero_or_pos i with h | h
        · rw [h0 h]; exact a2
        · have h4 := (a5 h).2
          rw [prv_pos _ _ _ (by omega) h] at h4
          have := hp ⟨h, by omega⟩
          omega
      generalize hk : keepL l l[i] least rate quota = k'
      have hk1 : least ≤ k' ∧ k' ≤ l[i].keep := by
        rw [← hk]; unfold keepL; omega
      have hs := lvF_set hl hi hk1.2 (by omega) (fun h => by have := hp ⟨h, by omega⟩; omega)
      obtain ⟨g1, g2, g3⟩ := fitGo_right rate quota n (i + 1) (k' + 1) (l.set i ⟨l[i].step, k'⟩) hs (by rw [List.length_set]; omega) (by omega) (by omega) (fun h => by simp)
      refine ⟨g1, ?_, fun k h h' => ?_⟩
      · rw [g2, List.length_set]
      · obtain ⟨g4, g5⟩ := g3 k (by rw [List.length_set]; exact h) h'
        rw [g4]
        by_cases hki : k = i
        · subst hki
          rw [List.getElem_set_self] at g5 ⊢
          exact ⟨rfl, by dsimp only at g5; omega⟩
        · rw [List.getElem_set_ne (Ne.symm hki)] at g5 ⊢
          exact ⟨rfl, g5⟩
theorem upDiv_bd {a b : Int} (ha : 0 ≤ a) (hb : 1 ≤ b) : 0 ≤ upDiv a b ∧ upDiv a b ≤ a + b - 1 := by
  unfold upDiv
  exact ⟨Int.ediv_nonneg (by omega) (by omega), Int.ediv_le_self _ (by omega)⟩
/-- with the cost as the quota nothing changes -/
theorem fitRes_same {l : List Level} {rate q : Int} (hr : rateErr l rate = 0) (hq : 1 ≤ q ∧ q ≤ 1000000) (hc : costs l rate ≤ q) : fitRes l rate q = (l, true, 0) := by
  have e : fitGo rate q l.length 0 1 l = l := by
    cases l.length with
    | zero => rfl
    | succ n => simp [fitGo, hc]
  unfold fitRes
  rw [if_neg (by rw [hr]; simp), if_neg (by omega), e, if_neg (by omega)]
/-- either there are levels that fit, or there are none, and all cost too much -/
theorem fitRes_cases {l : List Level} {rate q : Int} (hr : rateErr l rate = 0) (hl : lvF l = 0) (hq : 1 ≤ q ∧ q ≤ 1000000) : (fitRes l rate q = ([], false, 0) ∧ q < costs l rate) ∨ ∃ l', fitRes l rate q = (l', true, 0) ∧ lvF l' = 0 ∧ Down l l' ∧ costs l' rate ≤ q := by
  obtain ⟨g1, g2⟩ := fitGo_right rate q l.length 0 1 l hl (by omega) (by omega) (fun _ => rfl) (fun h => by omega)
  by_cases hc : q < costs (fitGo rate q l.length 0 1 l) rate
  · left
    refine ⟨?_, ?_⟩
    · unfold fitRes
      rw [if_neg (by rw [hr]; simp), if_neg (by omega), if_pos hc]
    · apply Classical.byContradiction
      intro h
      have e : fitGo rate q l.length 0 1 l = l := by
        cases l.length with
        | zero => rfl
        | succ n => simp [fitGo]; omega
      rw [e] at hc
      omega
  · right
    refine ⟨_, ?_, g1, g2, by omega⟩
    unfold fitRes
    rw [if_neg (by rw [hr]; simp), if_neg (by omega), if_neg hc]
end Go.Proofs.YtkmkkjlfnobciaaGreatDoor
