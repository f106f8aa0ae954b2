/- The coarsest level that answers a query, with holds: the program. Condition: few holds, numbers as those of levels. -/
import Derived.Test.YtnpdbnkgipkgaaaGreatHVKeepsAll
namespace Go.Proofs.YtnpdbnkgipkgaaaGreat
open Go Go.RowKit
set_option maxRecDepth 100000
set_option linter.all false
set_option maxHeartbeats 2000000
variable {H : Hp} {K : AV → Hp → Prop}
def ansGo (p : Nat → Bool) : Nat → Int × Bool
  | 0 => (0, false)
  | k + 1 => if p k = true then ((k : Int), true) else ansGo p k
def fitsL (x : Level) (w : Win) (step : Int) : Bool := decide (step % longL x = 0 ∧ w.a % longL x = 0 ∧ w.b % longL x = 0)
def okP (h : List Hold) (w : Win) (step t : Int) (x : Level) : Bool := fitsL x w step && !(momsP x h w).any (fun m => inW w m && !keepB x h m t)
def winA (w : Win) (step t : Int) : Int := if w.a < 0 ∨ w.b ≤ w.a ∨ t < w.b ∨ ¬(0 ≤ t ∧ t ≤ 345686399999) ∨ ¬isStep step then 1 else if w.a % step ≠ 0 ∨ w.b % step ≠ 0 then 16 else 0
def ansE (lv : List Level) (h : List Hold) (tag : ByteArray) (w : Win) (step t : Int) : Int := firstE [firstE [lvF lv, hdF h, tagE tag], winA w step t]
def ansRes (lv : List Level) (h : List Hold) (tag : ByteArray) (w : Win) (step t : Int) : Int × Bool × Int :=
  if ansE lv h tag w step t ≠ 0 then (0, false, ansE lv h tag w step t) else
    ((ansGo (fun k => (lv[k]?).any (okP (ofF h tag) w step t)) lv.length).1, (ansGo (fun k => (lv[k]?).any (okP (ofF h tag) w step t)) lv.length).2, 0)
theorem hdF_times {l : List Hold} (h : hdF l = 0) : ∀ y ∈ l, y.t0 < y.t1 ∧ 0 ≤ y.t0 ∧ y.t1 ≤ 345686400000 ∧ 0 ≤ y.made ∧ y.made < y.ends ∧ y.ends ≤ 345686400000 := by
  have h1 : errGo hdErr 0 hold0 l = 0 := by
    unfold hdF at h
    split at h
    · cases h
    · exact h
  intro y hy
  obtain ⟨k, hk, rfl⟩ := List.getElem_of_mem hy
  have h2 := errGo_pair hdErr _ _ h1 k hk
  unfold hdErr at h2
  split at h2
  · exact absurd h2 (by assumption)
  · split at h2
    · cases h2
    · split at h2
      · cases h2
      · omega
theorem firstE_2 (a b : Int) : firstE [a, b] = if a = 0 then b else a := by
  unfold firstE
  by_cases h : a = 0
  · rw [if_pos h, if_pos h]
    unfold firstE
    split
    · rename_i h1; rw [h1]; rfl
    · rfl
  · rw [if_neg h, if_neg h]
end Go.Proofs.YtnpdbnkgipkgaaaGreat
