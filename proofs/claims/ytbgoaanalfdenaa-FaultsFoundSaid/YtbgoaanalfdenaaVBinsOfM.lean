/- The bins of a series, interval by interval: no program in sight. No condition. -/
import Derived.Test.YtbgoaanalfdenaaVBinG
namespace Go.Proofs.Ytbgoaanalfdenaa
open Go Go.RowKit
set_option maxRecDepth 100000
set_option linter.all false
def minL : List Int → Int
  | [] => 0
  | x :: t => t.foldl min x
def maxL : List Int → Int
  | [] => 0
  | x :: t => t.foldl max x
theorem minL_snoc (g : List Int) (v : Int) : minL (g ++ [v]) = if g = [] then v else min (minL g) v := by
  cases g with
  | nil => rfl
  | cons x t => simp [minL]
theorem maxL_snoc (g : List Int) (v : Int) : maxL (g ++ [v]) = if g = [] then v else max (maxL g) v := by
  cases g with
  | nil => rfl
  | cons x t => simp [maxL]
def mkB (f : Int) (g : List Int) (m : Int) : Bin := ⟨f, g.sum, g.length, m, minL g, maxL g⟩
theorem div_same {t q step : Int} (h0 : 0 < step) (h1 : q * step ≤ t) (h2 : t < q * step + step) : t / step = q := by
  have a : q ≤ t / step := (Int.le_ediv_iff_mul_le h0).2 h1
  have b : t / step < q + 1 := (Int.ediv_lt_iff_lt_mul h0).2 (by rw [Int.add_mul, Int.one_mul]; exact h2)
  omega
theorem mk_first (step : Int) (x : Smp) : binOf step x = mkB (x.t / step * step) (if x.q = 0 then [x.v] else []) (if x.q = 0 then 0 else 1) := by
  unfold binOf mkB
  split <;> simp [minL, maxL]
theorem put_first {out : List Bin} {b : Bin} (h : ∀ y ∈ out, y.a ≠ b.a) : putB out b = out ++ [b] := by
  unfold putB
  split
  · rename_i h0; rw [List.getLast?_eq_none_iff.1 h0]; rfl
  · rename_i y hy
    rw [if_neg (h y (List.mem_of_getLast? hy))]
theorem put_next (out : List Bin) (f : Int) (g : List Int) (m : Int) (step : Int) (x : Smp) (hf : x.t / step * step = f) (hne : g ≠ [] ∨ m ≠ 0) : putB (out ++ [mkB f g m]) (binOf step x) = out ++ [mkB f (if x.q = 0 then g ++ [x.v] else g) (if x.q = 0 then m else m + 1)] := by
  have h1 : (binOf step x).a = f := by unfold binOf; split <;> exact hf
  unfold putB
  rw [List.getLast?_concat]
  dsimp only
  rw [if_pos (by rw [h1]; rfl), List.dropLast_concat]
  congr 2
  unfold binOf combB
  by_cases hq : x.q = 0
  · rw [if_pos hq, if_pos hq, if_pos hq]
    by_cases hg : g = []
    · subst hg; simp [mkB, minL, maxL]
    · have hl : g.length ≠ 0 := by simpa using hg
      have hl2 : (g.length : Int) ≠ 0 := by omega
      simp only [mkB, minL_snoc, maxL_snoc, if_neg hg, if_neg hl2]
      simp [hg]
  · rw [if_neg hq, if_neg hq, if_neg hq]
    by_cases hg : g = []
    · subst hg; simp [mkB, minL, maxL]
    · have hl : g.length ≠ 0 := by simpa using hg
      have hl2 : (g.length : Int) ≠ 0 := by omega
      simp only [mkB, if_neg hl2]
      simp
theorem binsF_next {l : List Smp} {k : Nat} (step : Int) (h : k < l.length) : binsF step (l.take (k + 1)) = putB (binsF step (l.take k)) (binOf step l[k]) := by
  rw [List.take_succ_eq_append_getElem h, binsF_snoc]
def incS (l : List Smp) : Prop := ∀ (i j : Nat) (hj : j < l.length) (hij : i < j), (l[i]'(by omega)).t < l[j].t
theorem errGo_pair {α : Type} (f : Nat → α → α → Int) (p0 : α) (l : List α) (h : errGo f 0 p0 l = 0) : ∀ k (hk : k < l.length), f k (prv p0 l k) l[k] = 0 := by
  have key : ∀ k, k ≤ l.length → errGo f k (prv p0 l k) (l.drop k) = 0 := by
    intro k
    induction k with
    | zero => intro _; exact h
    | succ k ih =>
      intro hk
      have h1 := ih (by omega)
      rw [errGo_step f p0 l k (by omega)] at h1
      split at h1
      · exact h1
      · rename_i h2; exact absurd h1 h2
  intro k hk
  have h1 := key k (by omega)
  rw [errGo_step f p0 l k hk] at h1
  split at h1
  · assumption
  · exact h1
theorem serF_inc {l : List Smp} (h : serF l = 0) : incS l := by
  have h1 : errGo serErr 0 ⟨0, 0, 0⟩ l = 0 := by
    unfold serF at h
    split at h
    · cases h
    · exact h
  have h2 := errGo_pair serErr _ l h1
  have step : ∀ (k : Nat) (hk : k + 1 < l.length), (l[k]'(by omega)).t < l[k + 1].t := by
    intro k hk
    have h3 := h2 (k + 1) hk
    rw [prv_succ _ _ k (by omega)] at h3
    unfold serErr at h3
    split at h3
    · rename_i h4; exact absurd h3 h4
    · split at h3
      · cases h3
      · omega
  intro i j hj hij
  induction j with
  | zero => omega
  | succ j ih =>
    rcases Nat.lt_or_ge i j with h4 | h4
    · exact Int.lt_trans (ih (by omega) h4) (step j hj)
    · obtain rfl : i = j := by omega
      exact step i hj
end Go.Proofs.Ytbgoaanalfdenaa
