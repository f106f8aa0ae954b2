/- Several texts in one: The least cost of steps between two places: from before or from behind, and what follows. No condition. -/
import Derived.Test.YtnodfnjmhcjnfaaGreatHCoreC
import Derived.Test.YtnodfnjmhcjnfaaGreatHVCmpk
/- The least cost of steps between two places: from before or from behind. No program in sight. -/
namespace Go.Proofs.YtnodfnjmhcjnfaaGreat
open Go Go.RowKit
inductive ChS (c : Nat → Nat → Int) : Nat → Nat → Int → Prop
  | nil (i : Nat) : ChS c i i 0
  | cons {i k j : Nat} {x : Int} (h1 : i < k) (h2 : k ≤ i + 100) (h : ChS c k j x) : ChS c i j (c i k + x)
theorem ChS.le {c : Nat → Nat → Int} {i j : Nat} {x : Int} (h : ChS c i j x) : i ≤ j := by
  induction h with
  | nil i => exact Nat.le_refl _
  | cons h1 h2 h ih => omega
theorem ChS.snoc {c : Nat → Nat → Int} {i k j : Nat} {x : Int} (h : ChS c i k x) (h1 : k < j) (h2 : j ≤ k + 100) : ChS c i j (x + c k j) := by
  induction h with
  | nil i =>
    have := ChS.cons (c := c) h1 h2 (.nil j)
    rwa [Int.add_comm] at this
  | cons g1 g2 g ih =>
    have := ChS.cons g1 g2 (ih h1 h2)
    rwa [← Int.add_assoc] at this
theorem ChS.last {c : Nat → Nat → Int} {i j : Nat} {x : Int} (h : ChS c i j x) : (i = j ∧ x = 0) ∨ ∃ k y, ChS c i k y ∧ k < j ∧ j ≤ k + 100 ∧ x = y + c k j := by
  induction h with
  | nil i => exact .inl ⟨rfl, rfl⟩
  | @cons i k j x h1 h2 h ih =>
    rcases ih with ⟨rfl, rfl⟩ | ⟨m, y, g1, g2, g3, rfl⟩
    · exact .inr ⟨i, 0, .nil i, h1, h2, by omega⟩
    · exact .inr ⟨m, c i k + y, .cons h1 h2 g1, g2, g3, by omega⟩
def IsMin (c : Nat → Nat → Int) (i j : Nat) (m : Int) : Prop := ChS c i j m ∧ ∀ x, ChS c i j x → m ≤ x
theorem IsMin.one {c : Nat → Nat → Int} {i j : Nat} {m m' : Int} (h : IsMin c i j m) (h' : IsMin c i j m') : m = m' := by
  have h1 := h.2 _ h'.1
  have h2 := h'.2 _ h.1
  omega
theorem isMin_refl (c : Nat → Nat → Int) (i : Nat) : IsMin c i i 0 := by
  refine ⟨.nil i, fun x h => ?_⟩
  rcases h.last with ⟨_, rfl⟩ | ⟨k, y, g1, g2, g3, rfl⟩
  · exact Int.le_refl _
  · have := g1.le
    omega
theorem isMin_from {c : Nat → Nat → Int} {i n : Nat} (hi : i < n) (b : Nat → Int) (hb : ∀ k, i < k → k ≤ n → IsMin c k n (b k)) {m : Int} (hm : (∃ k, i < k ∧ k ≤ n ∧ k ≤ i + 100 ∧ m = c i k + b k) ∧ ∀ k, i < k → k ≤ n → k ≤ i + 100 → m ≤ c i k + b k) : IsMin c i n m := by
  obtain ⟨⟨k, h1, h2, h3, rfl⟩, h4⟩ := hm
  refine ⟨.cons h1 h3 (hb k h1 h2).1, fun x hx => ?_⟩
  cases hx with
  | nil => omega
  | @cons _ k' _ y g1 g2 g3 =>
    have e1 := g3.le
    have e2 := h4 k' g1 e1 g2
    have e3 := (hb k' g1 e1).2 _ g3
    omega
theorem isMin_to {c : Nat → Nat → Int} {k : Nat} (hk : 0 < k) (b : Nat → Int) (hb : ∀ i, i < k → IsMin c 0 i (b i)) {m : Int} (hm : (∃ i, i < k ∧ k ≤ i + 100 ∧ m = b i + c i k) ∧ ∀ i, i < k → k ≤ i + 100 → m ≤ b i + c i k) : IsMin c 0 k m := by
  obtain ⟨⟨i, h1, h2, rfl⟩, h4⟩ := hm
  refine ⟨(hb i h1).1.snoc h1 h2, fun x hx => ?_⟩
  rcases hx.last with ⟨e, _⟩ | ⟨j, y, g1, g2, g3, rfl⟩
  · omega
  · have e2 := h4 j g2 g3
    have e3 := (hb j g2).2 _ g1
    omega
end Go.Proofs.YtnodfnjmhcjnfaaGreat
/- What blocks of samples cost. No program in sight. -/
namespace Go.Proofs.YtnodfnjmhcjnfaaGreat
open Go Go.RowKit
set_option maxRecDepth 100000
set_option linter.all false
set_option maxHeartbeats 2000000
def vl (n : Int) : Nat := (vb (zig n)).length
def cB (tag : ByteArray) (l : List Smp) (i j : Nat) : Int := ((blockB tag ((l.take j).drop i) false).length : Int)
def fixL (tag : ByteArray) : Nat := 4 + vl tag.size + tag.size
def fstL (s : Smp) : Nat := vl s.t + vl s.v + vl s.q
def nxtL (p s : Smp) : Nat := vl (s.t - p.t) + vl (s.v - p.v) + vl s.q
def smL (l : List Smp) (i j : Nat) : Nat := (smpsB ⟨0, 0, 0⟩ ((l.take j).drop i)).length
theorem cB_eq (tag : ByteArray) {l : List Smp} {i j : Nat} (hj : j ≤ l.length) : cB tag l i j = (fixL tag : Int) + vl ((j - i : Nat) : Int) + smL l i j := by
  have h3 : tag.data.toList.length = tag.size := Array.length_toList
  have h4 : ((l.take j).drop i).length = j - i := by rw [List.length_drop, List.length_take]; omega
  unfold cB fixL smL vl blockB bodyB headB
  rw [h4]
  simp only [List.length_append, List.length_cons, List.length_nil, h3]
  omega
theorem take_drop_snoc {α : Type} {l : List α} {i j : Nat} (hij : i ≤ j) (hj : j < l.length) : (l.take (j + 1)).drop i = (l.take j).drop i ++ [l[j]] := by
  rw [List.take_succ_eq_append_getElem hj, List.drop_append_of_le_length (by rw [List.length_take]; omega)]
theorem smL_one {l : List Smp} {i : Nat} (h : i < l.length) : smL l i (i + 1) = fstL l[i] := by
  unfold smL
  rw [take_drop_snoc (Nat.le_refl _) h, List.drop_eq_nil_of_le (by rw [List.length_take]; omega)]
  simp [smpsB, smpB, fstL, vl]
  omega
theorem smL_next {l : List Smp} {i j : Nat} (hij : i < j) (hj : j < l.length) : smL l i (j + 1) = smL l i j + nxtL l[j - 1] l[j] := by
  unfold smL
  have e : (l.take j).drop i = (l.take (j - 1)).drop i ++ [l[j - 1]] := by
    have := take_drop_snoc (l := l) (i := i) (j := j - 1) (by omega) (by omega)
    rwa [show j - 1 + 1 = j by omega] at this
  rw [take_drop_snoc (by omega) hj, smpsB_snoc, List.length_append]
  have hl : ((⟨0, 0, 0⟩ : Smp) :: (l.take j).drop i).getLast (by simp) = l[j - 1] := by
    rw [List.getLast_cons (by rw [e]; simp)]
    simp [e]
  rw [hl]
  simp [smpB, nxtL, vl]
  omega
theorem fst_le {s : Smp} (h : smlS s) : fstL s ≤ 18 := by
  have := smpB_len (p := ⟨0, 0, 0⟩) (s := s) (by simp [smlS]) h
  simp [smpB, List.length_append] at this
  simp [fstL, vl]
  omega
theorem nxt_le {p s : Smp} (hp : smlS p) (h : smlS s) : nxtL p s ≤ 18 := by
  have := smpB_len hp h
  simp [smpB, List.length_append] at this
  simp [nxtL, vl]
  omega
theorem cB_nn (tag : ByteArray) (l : List Smp) (i j : Nat) : 0 ≤ cB tag l i j := Int.natCast_nonneg _
theorem cB_le {tag : ByteArray} {l : List Smp} {i j : Nat} (ht : tag.size ≤ 40) (hl : ∀ s ∈ l, smlS s) (h : j ≤ i + 100) : cB tag l i j ≤ 2000 := by
  have := blockB_40 tag ((l.take j).drop i) false ht (by rw [List.length_drop, List.length_take]; omega) (fun s hs => hl s (List.mem_of_mem_take (List.mem_of_mem_drop hs)))
  unfold cB; omega
theorem ChS.nn {c : Nat → Nat → Int} (h0 : ∀ i j, 0 ≤ c i j) {i j : Nat} {x : Int} (h : ChS c i j x) : 0 ≤ x := by
  induction h with
  | nil i => exact Int.le_refl _
  | @cons i k j x h1 h2 h ih => have := h0 i k; omega
theorem chS_ones {c : Nat → Nat → Int} {n : Nat} (h1 : ∀ i, i < n → c i (i + 1) ≤ 2000) : ∀ d k, k + d = n → ∃ x, ChS c k n x ∧ x ≤ 2000 * d
  | 0, k, h => ⟨0, by rw [← h]; exact .nil k, by simp⟩
  | d + 1, k, h => by
    obtain ⟨x, g1, g2⟩ := chS_ones h1 d (k + 1) (by omega)
    have := h1 k (by omega)
    exact ⟨c k (k + 1) + x, .cons (by omega) (by omega) g1, by omega⟩
theorem isMin_bd {c : Nat → Nat → Int} {n : Nat} (h0 : ∀ i j, 0 ≤ c i j) (h1 : ∀ i, i < n → c i (i + 1) ≤ 2000) {k : Nat} {m : Int} (hk : k ≤ n) (h : IsMin c k n m) : 0 ≤ m ∧ m ≤ 2000 * (n : Int) := by
  obtain ⟨x, g1, g2⟩ := chS_ones h1 (n - k) k (by omega)
  have := h.2 x g1
  exact ⟨h.1.nn h0, by omega⟩
def sizE (tag : ByteArray) (l : List Smp) : Int := if isKey tag then serF l else 5
end Go.Proofs.YtnodfnjmhcjnfaaGreat
