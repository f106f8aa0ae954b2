/- Limited values, and values that are scaled by 1 and by -1: no program in sight. No condition. -/
import Derived.Test.YtdcedhgkigpejaaGreatDoorHVGC
import Derived.Test.YtdcedhgkigpejaaGreatDoorHVGF
namespace Go.Proofs.YtdcedhgkigpejaaGreatDoor
open Go Go.RowKit
set_option maxRecDepth 100000
set_option linter.all false
theorem smpErr_iff {x : Smp} : smpErr x = 0 ↔ (0 ≤ x.t ∧ x.t ≤ 345686399999) ∧ (0 ≤ x.q ∧ x.q ≤ 2) ∧ (-1000000 ≤ x.v ∧ x.v ≤ 1000000) ∧ (x.q = 2 → x.v = 0) := by
  unfold smpErr
  constructor
  · intro h
    split at h
    · cases h
    · split at h
      · cases h
      · split at h
        · cases h
        · split at h
          · cases h
          · omega
  · rintro ⟨h1, h2, h3, h4⟩
    rw [if_neg (by omega), if_neg (by omega), if_neg (by omega), if_neg (by rintro ⟨a, b⟩; exact b (h4 a))]
theorem roundF_one (a : Int) : roundF a 1 = a := by
  unfold roundF
  split <;> omega
theorem limitF_err {lo hi : Int} (h1 : -1000000 ≤ lo) (h2 : lo ≤ hi) (h3 : hi ≤ 1000000) {x : Smp} (h : smpErr x = 0) : smpErr (limitF lo hi x) = 0 ∧ (limitF lo hi x).t = x.t ∧ limitF lo hi (limitF lo hi x) = limitF lo hi x ∧ ((limitF lo hi x).q ≠ 2 → lo ≤ (limitF lo hi x).v ∧ (limitF lo hi x).v ≤ hi) := by
  obtain ⟨a1, a2, a3, a4⟩ := smpErr_iff.1 h
  unfold limitF
  by_cases c : x.q ≠ 2 ∧ min (max x.v lo) hi ≠ x.v
  · rw [if_pos c]
    refine ⟨smpErr_iff.2 ⟨a1, by dsimp only; omega, by dsimp only; omega, by dsimp only; omega⟩, rfl, ?_, fun _ => by dsimp only; omega⟩
    rw [if_neg]
    dsimp only
    omega
  · rw [if_neg c]
    refine ⟨h, rfl, by rw [if_neg c], fun hq => by omega⟩
theorem limit_ser {lo hi : Int} (h1 : -1000000 ≤ lo) (h2 : lo ≤ hi) (h3 : hi ≤ 1000000) {l : List Smp} (h : serF l = 0) : serF (l.map (limitF lo hi)) = 0 ∧ (l.map (limitF lo hi)).map (limitF lo hi) = l.map (limitF lo hi) := by
  have he := (serF_ok h).2
  refine ⟨serF_map _ h (fun x hx => (limitF_err h1 h2 h3 (he x hx)).2.1) (fun x hx => (limitF_err h1 h2 h3 (he x hx)).1), ?_⟩
  rw [List.map_map]
  exact List.map_congr_left fun x hx => (limitF_err h1 h2 h3 (he x hx)).2.2.1
theorem scaleF_one {x : Smp} (h : smpErr x = 0) : scaleF 1 1 0 x = x := by
  obtain ⟨a1, a2, a3, a4⟩ := smpErr_iff.1 h
  unfold scaleF
  rw [Int.mul_one, Int.zero_mul, Int.add_zero, roundF_one]
  split
  · rfl
  · rw [if_neg (by omega)]
def negS (x : Smp) : Smp := if x.q = 2 then x else ⟨x.t, 0 - x.v, x.q⟩
theorem scaleF_neg {x : Smp} (h : smpErr x = 0) : scaleF (-1) 1 0 x = negS x := by
  obtain ⟨a1, a2, a3, a4⟩ := smpErr_iff.1 h
  unfold scaleF negS
  rw [show x.v * -1 + 0 * 1 = 0 - x.v by omega, roundF_one]
  split
  · rfl
  · rw [if_neg (by omega)]
theorem negS_err {x : Smp} (h : smpErr x = 0) : smpErr (negS x) = 0 ∧ (negS x).t = x.t ∧ negS (negS x) = x := by
  obtain ⟨a1, a2, a3, a4⟩ := smpErr_iff.1 h
  unfold negS
  by_cases c : x.q = 2
  · rw [if_pos c]
    exact ⟨h, rfl, by rw [if_pos c]⟩
  · rw [if_neg c]
    refine ⟨smpErr_iff.2 ⟨a1, a2, by dsimp only; omega, fun e => absurd e c⟩, rfl, ?_⟩
    rw [if_neg c]
    dsimp only
    rw [show 0 - (0 - x.v) = x.v by omega]
theorem scale_one {l : List Smp} (h : serF l = 0) : l.map (scaleF 1 1 0) = l := by
  have he := (serF_ok h).2
  conv => rhs; rw [← List.map_id l]
  exact List.map_congr_left fun x hx => scaleF_one (he x hx)
theorem scale_neg {l : List Smp} (h : serF l = 0) : serF (l.map (scaleF (-1) 1 0)) = 0 ∧ (l.map (scaleF (-1) 1 0)).map (scaleF (-1) 1 0) = l := by
  have he := (serF_ok h).2
  have e : l.map (scaleF (-1) 1 0) = l.map negS := List.map_congr_left fun x hx => scaleF_neg (he x hx)
  have hs : serF (l.map negS) = 0 := serF_map _ h (fun x hx => (negS_err (he x hx)).2.1) (fun x hx => (negS_err (he x hx)).1)
  rw [e]
  refine ⟨hs, ?_⟩
  have he2 := (serF_ok hs).2
  have e2 : (l.map negS).map (scaleF (-1) 1 0) = (l.map negS).map negS := List.map_congr_left fun x hx => scaleF_neg (he2 x hx)
  rw [e2, List.map_map]
  conv => rhs; rw [← List.map_id l]
  exact List.map_congr_left fun x hx => (negS_err (he x hx)).2.2
theorem scaleRes_one {l : List Smp} (h : serF l = 0) : scaleRes l 1 1 0 = (l, 0) := by
  unfold scaleRes
  rw [if_neg (by simp [h]), if_neg (by decide +kernel), scale_one h]
theorem scaleRes_neg {l : List Smp} (h : serF l = 0) : scaleRes l (-1) 1 0 = (l.map (scaleF (-1) 1 0), 0) := by
  unfold scaleRes
  rw [if_neg (by simp [h]), if_neg (by decide +kernel)]
theorem limRes_ok {l : List Smp} {lo hi : Int} (h : serF l = 0) (h1 : -1000000 ≤ lo) (h2 : lo ≤ hi) (h3 : hi ≤ 1000000) : limRes l lo hi = (l.map (limitF lo hi), 0) := by
  unfold limRes limE
  rw [if_neg (by simp [h]), if_neg (by omega : ¬ ((if lo < -1000000 ∨ hi < lo ∨ 1000000 < hi then (1 : Int) else 0) ≠ 0))]
end Go.Proofs.YtdcedhgkigpejaaGreatDoor
