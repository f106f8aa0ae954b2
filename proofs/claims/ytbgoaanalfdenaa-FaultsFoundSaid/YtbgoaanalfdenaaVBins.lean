/- The bins of a series: the program. No condition. -/
import Derived.Test.YtbgoaanalfdenaaVBin
namespace Go.Proofs.Ytbgoaanalfdenaa
open Go Go.RowKit
set_option maxRecDepth 100000
set_option linter.all false
set_option maxHeartbeats 1000000
variable {H : Hp} {K : AV → Hp → Prop}
def foldB (l : List Bin) : List Bin := l.foldl putB []
theorem foldB_snoc (l : List Bin) (x : Bin) : foldB (l ++ [x]) = putB (foldB l) x := by simp [foldB]
theorem putB_bd2 {l : List Bin} {b : Bin} {B C : Int} (hl : ∀ x ∈ l, x.bd B) (hb : b.bd C) (hB : 0 ≤ B) (hC : 0 ≤ C) : (∀ x ∈ putB l b, x.bd (B + C)) ∧ (putB l b).length ≤ l.length + 1 := by
  have up : ∀ x ∈ l, x.bd (B + C) := fun x hx => by
    have := hl x hx; simp only [Bin.bd] at this ⊢; omega
  have ub : b.bd (B + C) := by simp only [Bin.bd] at hb ⊢; omega
  unfold putB
  split
  · exact ⟨by intro x hx; simp at hx; subst hx; exact ub, by simp⟩
  · rename_i x hx
    have hxm : x ∈ l := List.mem_of_getLast? hx
    split
    · refine ⟨?_, by simp⟩
      intro y hy
      rcases List.mem_append.1 hy with hy | hy
      · exact up y (List.dropLast_subset _ hy)
      · simp at hy; subst hy
        have := hl x hxm
        simp only [Bin.bd, combB] at this hb ⊢; omega
    · refine ⟨?_, by simp⟩
      intro y hy
      rcases List.mem_append.1 hy with hy | hy
      · exact up y hy
      · simp at hy; subst hy; exact ub
def binOf (step : Int) (x : Smp) : Bin := if x.q = 0 then ⟨x.t / step * step, x.v, 1, 0, x.v, x.v⟩ else ⟨x.t / step * step, 0, 0, 1, 0, 0⟩
def binsF (step : Int) (l : List Smp) : List Bin := l.foldl (fun r x => putB r (binOf step x)) []
theorem putB_bd {l : List Bin} {b : Bin} {B : Int} (hl : ∀ x ∈ l, x.bd B) (hb : b.bd 1000000) (hB : 0 ≤ B) : (∀ x ∈ putB l b, x.bd (B + 1000000)) ∧ (putB l b).length ≤ l.length + 1 := by
  have up : ∀ x ∈ l, x.bd (B + 1000000) := fun x hx => by
    have := hl x hx; simp only [Bin.bd] at this ⊢; omega
  have ub : b.bd (B + 1000000) := by simp only [Bin.bd] at hb ⊢; omega
  unfold putB
  split
  · exact ⟨by intro x hx; simp at hx; subst hx; exact ub, by simp⟩
  · rename_i x hx
    have hxm : x ∈ l := List.mem_of_getLast? hx
    split
    · refine ⟨?_, by simp⟩
      intro y hy
      rcases List.mem_append.1 hy with hy | hy
      · exact up y (List.dropLast_subset _ hy)
      · simp at hy; subst hy
        have := hl x hxm
        simp only [Bin.bd, combB] at this hb ⊢; omega
    · refine ⟨?_, by simp⟩
      intro y hy
      rcases List.mem_append.1 hy with hy | hy
      · exact up y hy
      · simp at hy; subst hy; exact ub
theorem binsF_snoc (step : Int) (l : List Smp) (x : Smp) : binsF step (l ++ [x]) = putB (binsF step l) (binOf step x) := by simp [binsF]
theorem errGo_all {α : Type} (f : Nat → α → α → Int) : ∀ (l : List α) (k : Nat) (p : α), errGo f k p l = 0 → ∀ x ∈ l, ∃ j q, f j q x = 0
  | [], _, _, _ => by simp
  | y :: t, k, p, h => by
    intro x hx
    unfold errGo at h
    split at h
    · rename_i h0
      rcases List.mem_cons.1 hx with rfl | hx
      · exact ⟨k, p, h0⟩
      · exact errGo_all f t (k + 1) y h x hx
    · rename_i h0; exact absurd h h0
theorem smp_ok {x : Smp} (h : smpErr x = 0) : (0 ≤ x.t ∧ x.t ≤ 345686399999) ∧ (0 ≤ x.q ∧ x.q ≤ 2) ∧ (-1000000 ≤ x.v ∧ x.v ≤ 1000000) ∧ (x.q = 2 → x.v = 0) := by
  grind [smpErr]
theorem serF_ok {l : List Smp} (h : serF l = 0) : l.length ≤ 5000 ∧ ∀ x ∈ l, smpErr x = 0 := by
  unfold serF at h
  split at h
  · cases h
  · refine ⟨by omega, fun x hx => ?_⟩
    obtain ⟨j, q, h1⟩ := errGo_all serErr l 0 _ h x hx
    unfold serErr at h1
    split at h1
    · omega
    · rename_i h2; simpa using h2
theorem putB_ne (l : List Bin) (b : Bin) : putB l b ≠ [] := by
  unfold putB
  split
  · simp
  · split <;> simp
def binsRes (l : List Smp) (step : Int) : List Bin × Int := if serF l ≠ 0 then ([], serF l) else if isStep step then (binsF step l, 0) else ([], 1)
end Go.Proofs.Ytbgoaanalfdenaa
