/- What the program answers of series and fixes is what the document answers, faults and all. No program in sight. -/
import Derived.Test.YtgcjenfdndhhpaaGreatHVFixE
import Derived.Test.YtgcjenfdndhhpaaGreatHVFixH
import Derived.Test.YtgcjenfdndhhpaaGreatHVFixS
import Derived.Test.YtgcjenfdndhhpaaGreatHVFixI
import Derived.Test.YtgcjenfdndhhpaaGreatHVGF
namespace Go.Proofs.YtgcjenfdndhhpaaGreat
open Go Go.RowKit
set_option maxRecDepth 100000
set_option linter.all false
theorem ser_nd {l : List Smp} (h : serF l = 0) : (l.map (·.t)).Nodup := by
  have h1 := serInc h
  refine (List.pairwise_iff_getElem.2 (fun i j hi hj hij => ?_) : (l.map (·.t)).Pairwise (fun a b => a < b)).imp (fun h e => by omega)
  rw [List.getElem_map, List.getElem_map]
  exact h1 i j (by simpa using hj) hij
def mom1 (t : Int) : Int := if 0 ≤ t ∧ t ≤ 345686399999 then 0 else 1
theorem firstE3 (a b c : Int) : firstE [a, b, c] = if a ≠ 0 then a else if b ≠ 0 then b else c := by
  simp only [firstE]
  grind
theorem firstE2 (a b : Int) : firstE [a, b] = if a ≠ 0 then a else b := by
  simp only [firstE]
  grind
theorem fxd_e (a : List Smp) (f : List Fix) (t : Int) : fxdRes a f t = if firstE [serF a, fxF f, mom1 t] = 0 then (fxdF a f t, 0) else ([], firstE [serF a, fxF f, mom1 t]) := by
  have h := fixed_same (l := a) (fs := f) (a := t)
  unfold fxdRes faultF
  rw [firstE3, firstE2]
  unfold mom1
  by_cases h1 : serF a = 0
  · by_cases h2 : fxF f = 0
    · rw [h (ser_nd h1) h1 h2]
      by_cases h3 : 0 ≤ t ∧ t ≤ 345686399999
      · simp [h1, h2, h3]
      · simp [h1, h2, h3]
    · simp [h1, h2]
  · simp [h1]
theorem ov_e (f : List Fix) (t : Int) : ovRes f t = if firstE [fxF f, mom1 t] = 0 then (dvF (f.filter fun x => !decide (t < x.made)) (f.filter fun x => !decide (t < x.made)).length, 0) else ([], firstE [fxF f, mom1 t]) := by
  have h := overridden_same (fs := f) (a := t)
  unfold ovRes
  rw [firstE2]
  unfold mom1
  by_cases h2 : fxF f = 0
  · rw [h h2]
    by_cases h3 : 0 ≤ t ∧ t ≤ 345686399999
    · simp [h2, h3]
    · simp [h2, h3]
  · simp [h2]
theorem chg_e (a : List Smp) (f : List Fix) (t u : Int) : chgRes a f t u = if firstE [firstE [serF a, fxF f, mom1 t], mom1 u] = 0 then ((momsF a f).filter (chB a f t u), 0) else ([], firstE [firstE [serF a, fxF f, mom1 t], mom1 u]) := by
  have h := changes_same (l := a) (fs := f) (a := t) (b := u)
  unfold chgRes faultF
  rw [firstE2, firstE3, firstE2]
  unfold mom1
  by_cases h1 : serF a = 0
  · by_cases h2 : fxF f = 0
    · rw [h (ser_nd h1) h1 h2]
      by_cases h3 : 0 ≤ t ∧ t ≤ 345686399999
      · by_cases h4 : 0 ≤ u ∧ u ≤ 345686399999
        · simp [h1, h2, h3, h4]
        · simp [h1, h2, h3, h4]
      · simp [h1, h2, h3]
    · simp [h1, h2]
  · simp [h1]
theorem mgF_e (a b : List Fix) : mgFT a b = if firstE [fxF a, fxF b] = 0 then mgFR a b else ([], firstE [fxF a, fxF b]) := by
  unfold mgFT
  rw [ite_not]
/-- all of them are there by author and number: the list stays -/
theorem foS_in : ∀ (b out : List Fix), (∀ x ∈ b, ∃ o ∈ out, sameX o x = true) → ∀ r, foS out b = some r → r = out
  | [], out, _, r, h => by injection h with h; exact h.symm
  | x :: t, out, hin, r, h => by
    rw [foS] at h
    split at h
    · rename_i hf
      obtain ⟨o, ho, hs⟩ := hin x (by simp)
      exact absurd hs (List.find?_eq_none.1 hf o ho)
    · split at h
      · exact foS_in t out (fun y hy => hin y (by simp [hy])) r h
      · cases h
end Go.Proofs.YtgcjenfdndhhpaaGreat
