/- The plain law of levels, costs, quotas: no program in sight. No condition. -/
import Derived.Test.YtkmkkjlfnobciaaGreatDoorTypes
namespace Go.Proofs.YtkmkkjlfnobciaaGreatDoor
open Go Go.RowKit
set_option maxRecDepth 100000
set_option linter.all false
def errGo {α : Type} (f : Nat → α → α → Int) : Nat → α → List α → Int
  | _, _, [] => 0
  | i, p, x :: t => if f i p x = 0 then errGo f (i + 1) x t else f i p x
def prv {α : Type} (p0 : α) (l : List α) (k : Nat) : α := (p0 :: l).getD k p0
theorem prv_zero {α : Type} (p0 : α) (l : List α) : prv p0 l 0 = p0 := rfl
theorem prv_succ {α : Type} (p0 : α) (l : List α) (k : Nat) (h : k < l.length) : prv p0 l (k + 1) = l[k] := by simp [prv, List.getD, h]
theorem prv_pos {α : Type} (p0 : α) (l : List α) (k : Nat) (h : k ≤ l.length) (h0 : 0 < k) : prv p0 l k = l[k - 1]'(by omega) := by
  obtain ⟨j, rfl⟩ : ∃ j, k = j + 1 := ⟨k - 1, by omega⟩
  rw [prv_succ p0 l j (by omega)]; rfl
theorem errGo_step {α : Type} (f : Nat → α → α → Int) (p0 : α) (l : List α) (k : Nat) (h : k < l.length) :
    errGo f k (prv p0 l k) (l.drop k) = if f k (prv p0 l k) l[k] = 0 then errGo f (k + 1) (prv p0 l (k + 1)) (l.drop (k + 1)) else f k (prv p0 l k) l[k] := by
  rw [prv_succ p0 l k h, List.drop_eq_getElem_cons h]; rfl
theorem errGo_end {α : Type} (f : Nat → α → α → Int) (p : α) (l : List α) (k : Nat) (h : l.length ≤ k) : errGo f k p (l.drop k) = 0 := by
  rw [List.drop_eq_nil_of_le h]; rfl
theorem errGo_snoc {α : Type} (f : Nat → α → α → Int) (x : α) : ∀ (l : List α) (i : Nat) (p : α), errGo f i p l = 0 → errGo f i p (l ++ [x]) = f (i + l.length) (l.getLast?.getD p) x
  | [], i, p, _ => by
    simp only [List.nil_append, errGo, List.length_nil, Nat.add_zero, List.getLast?_nil, Option.getD_none]
    split <;> simp_all
  | y :: t, i, p, h => by
    simp only [errGo] at h
    split at h
    · rename_i h0
      rw [List.cons_append]
      simp only [errGo, h0, if_true]
      rw [errGo_snoc f x t (i + 1) y h]
      congr 1
      · simp; omega
      · cases t with
        | nil => rfl
        | cons z t =>
          rw [List.getLast?_cons_cons]
          cases h9 : (z :: t).getLast? with
          | none => simp at h9
          | some u => rfl
    · rename_i h0; exact absurd h h0
structure Level where
  step : Int
  keep : Int
deriving DecidableEq
def upDiv (a b : Int) : Int := (a + b - 1) / b
def costL (x : Level) (rate : Int) : Int := if x.step = 0 then upDiv (x.keep * rate) 3600000 else upDiv x.keep x.step + 1
def Level.ok (x : Level) : Prop := 0 ≤ x.step ∧ x.step ≤ 86400000 ∧ 1 ≤ x.keep ∧ x.keep ≤ 345686400000
def costs (l : List Level) (rate : Int) : Int := (l.map (costL · rate)).sum
theorem costL_bd {x : Level} {rate : Int} (h : x.ok) (hr : 1 ≤ rate) (hr2 : rate ≤ 1000000) : 0 ≤ costL x rate ∧ costL x rate ≤ 1000000000000000000 := by
  obtain ⟨h1, h2, h3, h4⟩ := h
  have hm0 : 0 ≤ x.keep * rate := Int.mul_nonneg (by omega) (by omega)
  have hm1 : x.keep * rate ≤ 345686400000 * 1000000 := Int.mul_le_mul h4 hr2 (by omega) (by omega)
  unfold costL
  split
  · unfold upDiv; omega
  · have hu : 0 ≤ upDiv x.keep x.step := Int.ediv_nonneg (by omega) (by omega)
    have hu2 : upDiv x.keep x.step ≤ x.keep + x.step - 1 := Int.ediv_le_self _ (by omega)
    omega
theorem costs_bd {rate : Int} (hr : 1 ≤ rate) (hr2 : rate ≤ 1000000) : ∀ (l : List Level), (∀ x ∈ l, x.ok) → 0 ≤ costs l rate ∧ costs l rate ≤ l.length * 1000000000000000000
  | [], _ => by simp [costs]
  | x :: l, h => by
    have h1 := costL_bd (h x (by simp)) hr hr2
    have h2 := costs_bd hr hr2 l (fun y hy => h y (by simp [hy]))
    have e : costs (x :: l) rate = costL x rate + costs l rate := rfl
    rw [e, List.length_cons]
    omega
theorem costs_snoc (l : List Level) (x : Level) (rate : Int) : costs (l ++ [x]) rate = costs l rate + costL x rate := by simp [costs]
abbrev isStep (n : Int) : Prop := 1 ≤ n ∧ n ≤ 86400000 ∧ 86400000 % n = 0
def lvErr (i : Nat) (p x : Level) : Int :=
  if x.step ≠ 0 ∧ ¬ isStep x.step ∨ x.keep < 1 ∨ 345686400000 < x.keep then 1
  else if (i = 0 ∧ x.step ≠ 0) ∨ (i ≠ 0 ∧ x.step = 0) then 3
  else if 0 < i ∧ (x.step ≤ p.step ∨ x.keep ≤ p.keep) then 7
  else if 1 < i ∧ x.step % p.step ≠ 0 then 16
  else 0
def lvF (l : List Level) : Int := if l.length = 0 then 8 else if 6 < l.length then 2 else errGo lvErr 0 ⟨0, 0⟩ l
def firstE : List Int → Int
  | [] => 0
  | x :: t => if x = 0 then firstE t else x
theorem firstE_drop (l : List Int) (k : Nat) (h : k < l.length) : firstE (l.drop k) = if l[k] = 0 then firstE (l.drop (k + 1)) else l[k] := by
  rw [List.drop_eq_getElem_cons h]; rfl
def mostL (x : Level) (rate budget : Int) : Int := if x.step = 0 then budget * 3600000 / rate else (budget - 1) * x.step
def rateErr (l : List Level) (rate : Int) : Int := firstE [lvF l, if rate < 1 ∨ 1000000 < rate then 1 else 0]
theorem lvF_ok {l : List Level} (h : lvF l = 0) : (∀ x ∈ l, x.ok) ∧ l.length ≤ 6 ∧ 1 ≤ l.length := by
  unfold lvF at h
  split at h
  · omega
  · split at h
    · omega
    · refine ⟨?_, by omega, by omega⟩
      have go : ∀ (l : List Level) (i : Nat) (p : Level), errGo lvErr i p l = 0 → ∀ x ∈ l, x.ok := by
        intro l
        induction l with
        | nil => intro _ _ _ x hx; simp at hx
        | cons y t ih =>
          intro i p h x hx
          simp only [errGo] at h
          split at h
          · rename_i hy
            rcases List.mem_cons.1 hx with rfl | hx
            · unfold lvErr at hy
              split at hy
              · omega
              · rename_i h1
                unfold Level.ok
                by_cases hs : x.step = 0
                · omega
                · have : isStep x.step := Classical.byContradiction fun hn => h1 (.inl ⟨hs, hn⟩)
                  simp only [isStep] at this
                  omega
            · exact ih _ _ h x hx
          · rename_i hy; exact absurd h hy
      exact go l 0 _ h
def costRes (l : List Level) (rate : Int) : Int × Int :=
  if rateErr l rate = 0 then (costs l rate, 0) else (0, rateErr l rate)
theorem firstE_two {a b : Int} (h : firstE [a, b] = 0) : a = 0 ∧ b = 0 := by
  simp only [firstE] at h
  split at h
  · split at h <;> omega
  · omega
def budgetL (l : List Level) (x : Level) (rate quota : Int) : Int := max 0 (quota - (costs l rate - costL x rate))
def keepL (l : List Level) (x : Level) (least rate quota : Int) : Int := min x.keep (max least (mostL x rate (budgetL l x rate quota)))
def fitGo (rate quota : Int) : Nat → Nat → Int → List Level → List Level
  | 0, _, _, l => l
  | n + 1, i, least, l =>
    if costs l rate ≤ quota then l
    else
      let x := l.getD i ⟨0, 1⟩
      fitGo rate quota n (i + 1) (keepL l x least rate quota + 1) (l.set i ⟨x.step, keepL l x least rate quota⟩)
def fitRes (l : List Level) (rate quota : Int) : List Level × Bool × Int :=
  if rateErr l rate ≠ 0 then ([], false, rateErr l rate)
  else if quota < 1 ∨ 1000000 < quota then ([], false, 1)
  else if quota < costs (fitGo rate quota l.length 0 1 l) rate then ([], false, 0)
  else (fitGo rate quota l.length 0 1 l, true, 0)
theorem keepL_bd {l : List Level} {x : Level} {least rate quota : Int} (hx : x.ok) (hl : 1 ≤ least) : 1 ≤ keepL l x least rate quota ∧ keepL l x least rate quota ≤ 345686400000 := by
  obtain ⟨h1, h2, h3, h4⟩ := hx
  unfold keepL
  omega
theorem budgetL_bd {l : List Level} {x : Level} {rate quota : Int} (hl : ∀ y ∈ l, y.ok) (hx : x ∈ l) (hr : 1 ≤ rate) (hr2 : rate ≤ 1000000) (hq : quota ≤ 1000000) :
    0 ≤ costs l rate - costL x rate ∧ 0 ≤ budgetL l x rate quota ∧ budgetL l x rate quota ≤ max 0 quota := by
  have h1 : 0 ≤ costs l rate - costL x rate := by
    induction l with
    | nil => simp at hx
    | cons y t ih =>
      have e : costs (y :: t) rate = costL y rate + costs t rate := rfl
      have ht := costs_bd hr hr2 t (fun z hz => hl z (by simp [hz]))
      rcases List.mem_cons.1 hx with rfl | hx
      · rw [e]; omega
      · have := ih (fun z hz => hl z (by simp [hz])) hx
        have hy := costL_bd (hl y (by simp)) hr hr2
        rw [e]; omega
  unfold budgetL
  omega
theorem mostL_bd {x : Level} {rate b : Int} (hs : 0 ≤ x.step) (hs2 : x.step ≤ 86400000) (hr : 1 ≤ rate) (hb : 0 ≤ b) (hb2 : b ≤ 1000000) : -86400000 ≤ mostL x rate b ∧ mostL x rate b ≤ 86400000000000 := by
  unfold mostL
  split
  · have h1 : 0 ≤ b * 3600000 / rate := Int.ediv_nonneg (by omega) (by omega)
    have h2 : b * 3600000 / rate ≤ b * 3600000 := Int.ediv_le_self _ (by omega)
    omega
  · have h1 : -1 * x.step ≤ (b - 1) * x.step := Int.mul_le_mul_of_nonneg_right (by omega) hs
    have h2 : (b - 1) * x.step ≤ 1000000 * x.step := Int.mul_le_mul_of_nonneg_right (by omega) hs
    omega
theorem fitGo_step {rate quota : Int} {n i : Nat} {least : Int} {l : List Level} (h : ¬ costs l rate ≤ quota) (hi : i < l.length) :
    fitGo rate quota (n + 1) i least l = fitGo rate quota n (i + 1) (keepL l l[i] least rate quota + 1) (l.set i ⟨l[i].step, keepL l l[i] least rate quota⟩) := by
  have e : l.getD i ⟨0, 1⟩ = l[i] := by simp [List.getD, hi]
  simp only [fitGo, if_neg h, e]
theorem set_ok {l : List Level} (h : ∀ y ∈ l, y.ok) (i : Nat) (x : Level) (hx : x.ok) : ∀ y ∈ l.set i x, y.ok := by
  intro y hy
  rcases List.mem_or_eq_of_mem_set hy with h1 | rfl
  · exact h y h1
  · exact hx
theorem upDiv_le {a b c : Int} (hb : 1 ≤ b) : upDiv a b ≤ c ↔ a ≤ c * b := by
  unfold upDiv
  have h : (a + b - 1) / b < c + 1 ↔ a + b - 1 < (c + 1) * b := Int.ediv_lt_iff_lt_mul (by omega)
  have e : (c + 1) * b = c * b + b := by rw [Int.add_mul]; omega
  rw [e] at h
  omega
theorem fits_iff0 {s k rate b : Int} (hs : 0 ≤ s) (hr : 1 ≤ rate) : costL ⟨s, k⟩ rate ≤ b ↔ k ≤ mostL ⟨s, k⟩ rate b := by
  unfold costL mostL
  by_cases h0 : s = 0
  · simp only [h0, if_true]
    rw [upDiv_le (by omega), Int.le_ediv_iff_mul_le (by omega)]
  · simp only [h0, if_false]
    have h := upDiv_le (a := k) (b := s) (c := b - 1) (by omega)
    omega
theorem fits_iff {s k kp rate b : Int} (hs : 0 ≤ s) (hr : 1 ≤ rate) (hk : 1 ≤ k) : costL ⟨s, k⟩ rate ≤ b ↔ k ≤ mostL ⟨s, kp⟩ rate (max 0 b) := by
  have e : ∀ c, mostL ⟨s, kp⟩ rate c = mostL ⟨s, k⟩ rate c := fun _ => rfl
  rw [e]
  by_cases hb : 0 ≤ b
  · rw [Int.max_eq_right hb]; exact fits_iff0 hs hr
  · rw [Int.max_eq_left (by omega)]
    have h := fits_iff0 (k := k) (b := 0) hs hr
    have hm : mostL ⟨s, k⟩ rate 0 ≤ 0 := by
      unfold mostL
      split
      · simp
      · have : (0 - 1) * s = -s := by omega
        simp only at *
        omega
    omega
theorem costs_set (rate : Int) : ∀ (l : List Level) (k : Nat) (hk : k < l.length) (y : Level), costs (l.set k y) rate = costs l rate - costL l[k] rate + costL y rate := by
  intro l
  induction l with
  | nil => intro k hk; simp at hk
  | cons x t ih =>
    intro k hk y
    have e : ∀ (a : Level) (m : List Level), costs (a :: m) rate = costL a rate + costs m rate := fun _ _ => rfl
    cases k with
    | zero => simp only [List.set_cons_zero, List.getElem_cons_zero, e]; omega
    | succ j =>
      have := ih j (by simpa using hk) y
      simp only [List.set_cons_succ, List.getElem_cons_succ, e]
      omega
def lowOf (o : List Level) (k : Nat) : Int := if k = 0 then 1 else (o.getD (k - 1) ⟨0, 0⟩).keep + 1
theorem costRes_err (l : List Level) (rate : Int) : (costRes l rate).2 = rateErr l rate := by
  unfold costRes
  split <;> simp_all
theorem fitRes_err (l : List Level) (rate quota : Int) : (fitRes l rate quota).2.2 = firstE [rateErr l rate, if quota < 1 ∨ 1000000 < quota then 1 else 0] := by
  unfold fitRes
  by_cases h : rateErr l rate = 0
  · rw [if_neg (by simp [h]), firstE, if_pos h]
    by_cases hq : quota < 1 ∨ 1000000 < quota
    · rw [if_pos hq, if_pos hq]; rfl
    · rw [if_neg hq, if_neg hq]
      split <;> rfl
  · rw [if_pos h, firstE, if_neg h]
def Level.bd (y : Level) : Prop := -1 ≤ y.step ∧ y.step ≤ 86400001 ∧ 0 ≤ y.keep ∧ y.keep ≤ 345686400001
end Go.Proofs.YtkmkkjlfnobciaaGreatDoor
