/- Overridden fixes: the program's answer is the document's. No program in sight. -/
import Derived.Test.YtgcjenfdndhhpaaGreatHVFixV
import Derived.Test.YtgcjenfdndhhpaaGreatHVFixQ
namespace Go.Proofs.YtgcjenfdndhhpaaGreat
open Go Go.RowKit
set_option maxRecDepth 100000
set_option linter.all false
/-- does any of the fixes behind override one? those in between first -/
def exG (x : Fix) : List Fix → List Fix → Bool
  | _, [] => false
  | pre, y :: t => ovrB x y pre || exG x (pre ++ [y]) t
def killB (x z : Fix) : Bool := decide (z.kind = 1) && tchB x z.s.t
theorem exG_kill {x : Fix} (h3 : x.kind = 3) : ∀ (l pre : List Fix), pre.any (killB x) = true → exG x pre l = false
  | [], _, _ => rfl
  | y :: r, pre, h => by
    rw [exG, exG_kill h3 r (pre ++ [y]) (by rw [List.any_append, h]; rfl), Bool.or_false]
    unfold ovrB
    rw [if_neg (by simp [h3])]
    split
    · rfl
    · have : (pre.any fun z => decide (z.kind = 1) && tchB x z.s.t) = true := h
      rw [this]; rfl
theorem gn_ex3 {x : Fix} (h3 : x.kind = 3) : ∀ (l pre : List Fix), (∀ y ∈ l, y.kind = 1 ∨ y.kind = 2 ∨ y.kind = 3) → pre.any (killB x) = false → exG x pre l = gnB x l
  | [], _, _, _ => rfl
  | y :: r, pre, hk, h => by
    have hy := hk y (by simp)
    have e0 : ovrB x y pre = if y.kind ≠ 3 ∨ x.w1 < y.w1 ∨ y.w2 < x.w2 ∨ y.q < x.q then false else true := by
      unfold ovrB
      rw [if_neg (by simp [h3])]
      split
      · rfl
      · have : (pre.any fun z => decide (z.kind = 1) && tchB x z.s.t) = false := h
        rw [this]; rfl
    have e1 : gn1 x y = if y.kind = 1 ∧ (x.w1 ≤ y.s.t ∧ y.s.t < x.w2) then 2 else if y.kind = 3 ∧ y.w1 ≤ x.w1 ∧ x.w2 ≤ y.w2 ∧ x.q ≤ y.q then 1 else 0 := by
      unfold gn1
      rw [if_neg (by simp [h3])]
    have e2 : killB x y = decide (y.kind = 1 ∧ (x.w1 ≤ y.s.t ∧ y.s.t < x.w2)) := by
      unfold killB tchB
      rw [if_neg (by omega), if_neg (by omega), ← Bool.decide_and]
    rw [exG, gnB, e0, e1]
    by_cases k1 : y.kind = 1 ∧ (x.w1 ≤ y.s.t ∧ y.s.t < x.w2)
    · rw [exG_kill h3 r (pre ++ [y]) (by rw [List.any_append, List.any_cons, e2, decide_eq_true k1]; simp), if_pos k1, if_pos (Or.inl (by omega))]
      rfl
    · have ih := gn_ex3 h3 r (pre ++ [y]) (fun z hz => hk z (by simp [hz])) (by rw [List.any_append, List.any_cons, e2, decide_eq_false k1, h]; rfl)
      rw [ih, if_neg k1]
      by_cases k2 : y.kind = 3 ∧ y.w1 ≤ x.w1 ∧ x.w2 ≤ y.w2 ∧ x.q ≤ y.q
      · rw [if_pos k2, if_neg (by omega)]; rfl
      · rw [if_neg k2, if_pos (by omega)]; rfl
theorem gn_ex12 {x : Fix} (h3 : x.kind = 1 ∨ x.kind = 2) : ∀ (l pre : List Fix), (∀ y ∈ l, y.kind = 1 ∨ y.kind = 2 ∨ y.kind = 3) → exG x pre l = gnB x l
  | [], _, _ => rfl
  | y :: r, pre, hk => by
    have hy := hk y (by simp)
    have ih := gn_ex12 h3 r (pre ++ [y]) (fun z hz => hk z (by simp [hz]))
    have e0 : ovrB x y pre = decide (y.kind ≠ 3 ∧ tcF y = tcF x) := by
      unfold ovrB tchB tcF
      rw [if_pos (by omega)]
      rcases h3 with h | h <;> rcases hy with k | k | k <;> simp [h, k]
    have e1 : gn1 x y = if y.kind ≠ 3 ∧ tcF y = tcF x then 1 else 0 := by
      unfold gn1
      rw [if_pos (by omega)]
    rw [exG, gnB, e0, e1, ih]
    by_cases k : y.kind ≠ 3 ∧ tcF y = tcF x
    · rw [if_pos k, decide_eq_true k]; rfl
    · rw [if_neg k, decide_eq_false k]; rfl
theorem gn_ex {x : Fix} {l : List Fix} (hx : x.kind = 1 ∨ x.kind = 2 ∨ x.kind = 3) (hl : ∀ y ∈ l, y.kind = 1 ∨ y.kind = 2 ∨ y.kind = 3) : exG x [] l = gnB x l := by
  rcases hx with h | h | h
  · exact gn_ex12 (.inl h) l [] hl
  · exact gn_ex12 (.inr h) l [] hl
  · exact gn_ex3 h l [] hl rfl
theorem exG_next {x : Fix} {f : List Fix} {i k : Nat} (hk : k < f.length) (hik : i < k) : exG x ((f.drop (i + 1)).take (k - (i + 1))) (f.drop k) = (ovrB x f[k] ((f.drop (i + 1)).take (k - (i + 1))) || exG x ((f.drop (i + 1)).take (k + 1 - (i + 1))) (f.drop (k + 1))) := by
  rw [List.drop_eq_getElem_cons hk, exG]
  congr 2
  have e : k + 1 - (i + 1) = k - (i + 1) + 1 := by omega
  rw [e, List.take_succ_eq_append_getElem (by rw [List.length_drop]; omega), List.getElem_drop]
  congr 3
  omega
/-- fixes up to a moment: the program's way and the document's -/
theorem trF_filter {a : Int} {l : List Fix} (hs : l.Pairwise (fun x y => x.made ≤ y.made)) : ∀ n, n ≤ l.length → (∀ k (h : k < l.length), n ≤ k → a < l[k].made) → trF a n l = l.filter (fun x => !decide (a < x.made))
  | 0, _, h => by
    rw [trF, List.take_zero]
    symm
    rw [List.filter_eq_nil_iff]
    intro x hx
    obtain ⟨k, hk, rfl⟩ := List.mem_iff_getElem.1 hx
    simpa using h k hk (by omega)
  | n + 1, hn, h => by
    have hnl : n < l.length := hn
    have e : l[n]? = some l[n] := List.getElem?_eq_getElem hnl
    rw [trF, e]
    dsimp only
    by_cases c : a < l[n].made
    · rw [if_pos c]
      refine trF_filter hs n (by omega) (fun k hk hle => ?_)
      by_cases e : n = k
      · subst e; exact c
      · exact h k hk (by omega)
    · rw [if_neg c]
      have e2 : l = l.take (n + 1) ++ l.drop (n + 1) := (List.take_append_drop _ _).symm
      conv => rhs; rw [e2, List.filter_append]
      have e3 : (l.drop (n + 1)).filter (fun x => !decide (a < x.made)) = [] := by
        rw [List.filter_eq_nil_iff]
        intro x hx
        obtain ⟨k, hk, rfl⟩ := List.mem_iff_getElem.1 hx
        rw [List.getElem_drop]
        rw [List.length_drop] at hk
        simpa using h (n + 1 + k) (by omega) (by omega)
      rw [e3, List.append_nil]
      symm
      rw [List.filter_eq_self]
      intro x hx
      obtain ⟨k, hk, rfl⟩ := List.mem_iff_getElem.1 hx
      rw [List.length_take] at hk
      rw [List.getElem_take]
      by_cases e : k = n
      · subst e; simpa using c
      · have := List.pairwise_iff_getElem.1 hs k n (by omega) hnl (by omega)
        have h4 : ¬ a < l[k].made := by omega
        simpa using h4
/-- the document's overridden fixes -/
def dvF (f : List Fix) (k : Nat) : List Int := ((List.range k).filter fun i => match f[i]? with | some x => exG x [] (f.drop (i + 1)) | none => false).map fun (i : Nat) => (i : Int)
theorem dvF_next {f : List Fix} {k : Nat} (h : k < f.length) : dvF f (k + 1) = dvF f k ++ (if exG f[k] [] (f.drop (k + 1)) = true then [(k : Int)] else []) := by
  unfold dvF
  rw [List.range_succ, List.filter_append, List.map_append]
  congr 1
  cases hg : exG f[k] [] (f.drop (k + 1)) <;> simp [h, hg]
theorem dvF_len (f : List Fix) (k : Nat) : (dvF f k).length ≤ k := by
  unfold dvF
  rw [List.length_map]
  exact Nat.le_trans (List.length_filter_le _ _) (by simp)
theorem dv_ov {f : List Fix} (hk : ∀ y ∈ f, y.kind = 1 ∨ y.kind = 2 ∨ y.kind = 3) (n : Nat) : dvF f n = ovF f n := by
  unfold dvF ovF
  congr 1
  refine List.filter_congr (fun i hi => ?_)
  cases h : f[i]? with
  | none => rfl
  | some x =>
    dsimp only
    exact gn_ex (hk x (List.mem_of_getElem? h)) (fun y hy => hk y (List.mem_of_mem_drop hy))
/-- the program's overridden fixes are the document's -/
theorem overridden_same {fs : List Fix} {a : Int} (h : fxF fs = 0) : ovF (trF a fs.length fs) (trF a fs.length fs).length = dvF (fs.filter fun x => !decide (a < x.made)) (fs.filter fun x => !decide (a < x.made)).length := by
  have hs := (fxGo_rise fs none (fxF_go h).2.1).2
  rw [trF_filter hs fs.length (Nat.le_refl _) (fun k hk hle => by omega), dv_ov]
  exact fun y hy => fx_kind (fxF_all h y (List.mem_filter.1 hy).1)
end Go.Proofs.YtgcjenfdndhhpaaGreat
