/- Intervals without a sample that is not bad: both ways are one, no program in sight. No condition. -/
import Derived.Test.YtdcedhgkigpejaaGreatDoorHVGF
namespace Go.Proofs.YtdcedhgkigpejaaGreatDoor
open Go Go.RowKit
set_option maxRecDepth 100000
set_option linter.all false
/-- where the next gap may begin, and the gaps -/
def gapTo (most : Int) (s : Int × List Win) (t : Int) : Int × List Win := (t + 1, s.2 ++ if most < t - s.1 then [⟨s.1, t⟩] else [])
def gapStep (most : Int) (s : Int × List Win) (x : Smp) : Int × List Win := if x.q = 2 then s else gapTo most s x.t
def gapsF (most : Int) (w : Win) (l : List Smp) : List Win := (gapTo most ((withinF l w).foldl (gapStep most) (w.a, [])) w.b).2
def endsF (l : List Smp) : List Int := (l.filter (fun x => decide (x.q ≠ 2))).map (fun x => x.t)
theorem gap_ends (most : Int) : ∀ (l : List Smp) (s : Int × List Win), l.foldl (gapStep most) s = (endsF l).foldl (gapTo most) s
  | [], _ => rfl
  | x :: l, s => by
    rw [List.foldl_cons, gap_ends most l]
    unfold endsF
    by_cases c : x.q = 2
    · rw [List.filter_cons_of_neg (by simp [c]), gapStep, if_pos c]
    · rw [List.filter_cons_of_pos (by simp [c]), gapStep, if_neg c]
      rfl
theorem gapsF_ends (most : Int) (w : Win) (l : List Smp) : gapsF most w l = ((endsF (withinF l w) ++ [w.b]).foldl (gapTo most) (w.a, [])).2 := by
  rw [gapsF, gap_ends, List.foldl_append]
  rfl
theorem gapTo_len (most : Int) : ∀ (l : List Int) (s : Int × List Win), (l.foldl (gapTo most) s).2.length ≤ s.2.length + l.length
  | [], s => by simp
  | t :: l, s => by
    rw [List.foldl_cons]
    have h := gapTo_len most l (gapTo most s t)
    have h2 : (gapTo most s t).2.length ≤ s.2.length + 1 := by
      unfold gapTo
      rw [List.length_append]
      split <;> simp
    rw [List.length_cons]
    omega
theorem gapTo_bd (most B : Int) : ∀ (l : List Int) (s : Int × List Win), (∀ t ∈ l, 0 ≤ t ∧ t ≤ B) → 0 ≤ s.1 → s.1 ≤ B + 1 → 0 ≤ (l.foldl (gapTo most) s).1 ∧ (l.foldl (gapTo most) s).1 ≤ B + 1
  | [], s, _, h1, h2 => ⟨h1, h2⟩
  | t :: l, s, hl, h1, h2 => by
    rw [List.foldl_cons]
    have := hl t (by simp)
    exact gapTo_bd most B l _ (fun u hu => hl u (by simp [hu])) (by unfold gapTo; dsimp only; omega) (by unfold gapTo; dsimp only; omega)
theorem endsF_next {l : List Smp} {k : Nat} (h : k < l.length) : endsF (l.take (k + 1)) = endsF (l.take k) ++ (if l[k].q = 2 then [] else [l[k].t]) := by
  unfold endsF
  rw [List.take_succ_eq_append_getElem h, List.filter_append, List.map_append]
  congr 1
  by_cases c : l[k].q = 2 <;> simp [c]
theorem endsF_len (l : List Smp) : (endsF l).length ≤ l.length := by
  unfold endsF
  rw [List.length_map]
  exact List.length_filter_le _ _
theorem endsF_mem {l : List Smp} {t : Int} (h : t ∈ endsF l) : ∃ x ∈ l, x.t = t := by
  unfold endsF at h
  obtain ⟨x, hx, rfl⟩ := List.mem_map.1 h
  exact ⟨x, (List.mem_filter.1 hx).1, rfl⟩
theorem fold_take {α β : Type} (f : β → α → β) (b : β) {l : List α} {k : Nat} (h : k < l.length) : (l.take (k + 1)).foldl f b = f ((l.take k).foldl f b) l[k] := by
  rw [List.take_succ_eq_append_getElem h, List.foldl_append]
  rfl
end Go.Proofs.YtdcedhgkigpejaaGreatDoor
