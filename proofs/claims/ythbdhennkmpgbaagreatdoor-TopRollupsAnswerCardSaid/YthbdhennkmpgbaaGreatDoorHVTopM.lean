/- Bins that are left of a window that can be answered: no program in sight. No condition. -/
import Derived.Test.YthbdhennkmpgbaaGreatDoorHVGH
import Derived.Test.YthbdhennkmpgbaaGreatDoorHVGJ
namespace Go.Proofs.YthbdhennkmpgbaaGreatDoor
open Go Go.RowKit
set_option maxRecDepth 100000
set_option linter.all false
theorem keepB_none (x : Level) (m t : Int) : keepB x [] m t = decide (t ≤ (ivl x m).2 + x.keep) := rfl
/-- a level that keeps the first interval of a window keeps all later ones -/
theorem left_all {x : Level} (hs : 1 ≤ x.step) {t : Int} (h0 : keepB x [] 0 t = true) (s : List Smp) (hpos : ∀ b ∈ binsF x.step s, 0 ≤ b.a) : binsLeft (fun m => keepB x [] m t) x.step s = binsF x.step s := by
  unfold binsLeft
  rw [List.filter_eq_self]
  intro b hb
  have hb0 := hpos b hb
  show keepB x [] b.a t = true
  rw [keepB_none, decide_eq_true_eq] at h0 ⊢
  have e : ∀ m, (ivl x m).2 = m / x.step * x.step + x.step := fun m => by unfold ivl; rw [if_neg (by omega)]
  rw [e] at h0 ⊢
  have d0 : 0 ≤ b.a / x.step := Int.ediv_nonneg hb0 (by omega)
  have d1 : 0 ≤ b.a / x.step * x.step := Int.mul_nonneg d0 (by omega)
  simp only [Int.zero_ediv, Int.zero_mul] at h0
  omega
theorem upTo_all {s : List Smp} {t : Int} (h : ∀ x ∈ s, x.t ≤ t) : upTo s t = s := by
  unfold upTo
  rw [List.filter_eq_self]
  intro x hx
  have := h x hx
  simp
  omega
theorem within_all {s : List Smp} {b : Int} (h : ∀ x ∈ s, 0 ≤ x.t ∧ x.t < b) : withinF s ⟨0, b⟩ = s := by
  unfold withinF
  rw [List.filter_eq_self]
  intro x hx
  have := h x hx
  simp
  omega
theorem binsF_pos {step : Int} (hs : 1 ≤ step) {l : List Smp} (h : serF l = 0) : ∀ b ∈ binsF step l, 0 ≤ b.a := fun b hb => (binsF_good hs h b hb).a.1
theorem binsF_below {step B : Int} (hs : 1 ≤ step) {l : List Smp} (h : serF l = 0) (hB : ∀ x ∈ l, x.t < B) : ∀ b ∈ binsF step l, b.a < B := by
  intro b hb
  rw [binsF_fold] at hb
  have hm := (foldB_sub (l.map (binOf step))).mem (List.mem_map.2 ⟨b, hb, rfl⟩)
  rw [List.map_map] at hm
  obtain ⟨x, hx, e⟩ := List.mem_map.1 hm
  have e2 : (binOf step x).a = x.t / step * step := by unfold binOf; split <;> rfl
  have d1 : x.t / step * step ≤ x.t := Int.ediv_mul_le _ (by omega)
  have := hB x hx
  simp only [Function.comp] at e
  omega
theorem sum_all {l : List Smp} {step B : Int} (h : serF l = 0) (hs : isStep step) (hB0 : 0 ≤ B) (hB1 : B ≤ 345686400000) (hd : B % step = 0) (hB : ∀ x ∈ l, x.t < B) : sumRes (binsF step l) step ⟨0, B⟩ = (((l.filter (fun x => decide (x.q = 0))).map (fun x => x.v)).sum, (((l.filter (fun x => decide (x.q = 0))).length : Nat) : Int), 0) := by
  have e0 : sumE (binsF step l) step ⟨0, B⟩ = 0 := by
    unfold sumE
    rw [if_neg (by simp [bnF_binsF hs h]), if_neg (by unfold winE; rw [if_neg (by dsimp only; omega)]; decide), if_neg (by simp [hd])]
  have e1 : inB (binsF step l) ⟨0, B⟩ = binsF step l := by
    unfold inB
    rw [List.filter_eq_self]
    intro x hx
    have h1 := binsF_pos hs.1 h x hx
    have h2 := binsF_below hs.1 h hB x hx
    simp
    omega
  obtain ⟨e2, e3⟩ := sum_binsF step l
  unfold sumRes
  rw [if_neg (by rw [e0]; decide), e1, e2, e3]
end Go.Proofs.YthbdhennkmpgbaaGreatDoor
