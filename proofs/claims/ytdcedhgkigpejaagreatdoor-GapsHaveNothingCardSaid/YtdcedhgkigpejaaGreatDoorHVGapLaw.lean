/- What gaps and runs are: no program in sight. No condition. -/
import Derived.Test.YtdcedhgkigpejaaGreatDoorHVGC
import Derived.Test.YtdcedhgkigpejaaGreatDoorHVGapsM
import Derived.Test.YtdcedhgkigpejaaGreatDoorHVStuckM
namespace Go.Proofs.YtdcedhgkigpejaaGreatDoor
open Go Go.RowKit
set_option maxRecDepth 100000
set_option linter.all false
/-- a greater length of gaps finds fewer -/
theorem gapTo_more {m1 m2 : Int} (h : m1 ≤ m2) : ∀ (l : List Int) (f : Int) (o1 o2 : List Win), o2.length ≤ o1.length → (l.foldl (gapTo m2) (f, o2)).2.length ≤ (l.foldl (gapTo m1) (f, o1)).2.length
  | [], _, _, _, h1 => h1
  | t :: l, f, o1, o2, h1 => by
    rw [List.foldl_cons, List.foldl_cons]
    simp only [gapTo]
    refine gapTo_more h l _ _ _ ?_
    rw [List.length_append, List.length_append]
    by_cases c : m2 < t - f
    · rw [if_pos c, if_pos (by omega)]
      simp only [List.length_singleton]
      omega
    · rw [if_neg c]
      simp only [List.length_nil]
      omega
theorem gapsF_more {m1 m2 : Int} (h : m1 ≤ m2) (w : Win) (l : List Smp) : (gapsF m2 w l).length ≤ (gapsF m1 w l).length := by
  rw [gapsF_ends, gapsF_ends]
  exact gapTo_more h _ _ _ _ (Nat.le_refl _)
/-- gaps found so far -/
structure GapOk (most lo hi : Int) (done : List Int) (s : Int × List Win) : Prop where
  f : lo ≤ s.1
  d : ∀ t ∈ done, t < s.1
  g : ∀ x ∈ s.2, most < x.b - x.a ∧ lo ≤ x.a ∧ x.b ≤ hi ∧ x.b < s.1 ∧ ∀ t ∈ done, t < x.a ∨ x.b ≤ t
  p : s.2.Pairwise (fun x y => x.b < y.a)
theorem gap_ok (most lo hi : Int) : ∀ (l done : List Int) (s : Int × List Win), l.Pairwise (fun a b => a < b) → (∀ t ∈ l, s.1 ≤ t ∧ t ≤ hi) → GapOk most lo hi done s → GapOk most lo hi (done ++ l) (l.foldl (gapTo most) s)
  | [], done, s, _, _, h => by simpa using h
  | t :: l, done, s, hp, hl, h => by
    have e : done ++ t :: l = (done ++ [t]) ++ l := by simp
    rw [List.foldl_cons, e]
    obtain ⟨ht1, ht2⟩ := hl t (by simp)
    rw [List.pairwise_cons] at hp
    obtain ⟨f, d, g, p⟩ := h
    refine gap_ok most lo hi l (done ++ [t]) _ hp.2 (fun u hu => ?_) ?_
    · have := hp.1 u hu
      have := (hl u (by simp [hu])).2
      simp only [gapTo]
      omega
    · constructor
      · simp only [gapTo]; omega
      · intro u hu
        simp only [gapTo]
        rcases List.mem_append.1 hu with h | h
        · have := d u h; omega
        · simp at h; omega
      · intro x hx
        simp only [gapTo] at hx ⊢
        rcases List.mem_append.1 hx with h | h
        · obtain ⟨g1, g2, g3, g4, g5⟩ := g x h
          refine ⟨g1, g2, g3, by omega, fun u hu => ?_⟩
          rcases List.mem_append.1 hu with h | h
          · exact g5 u h
          · simp at h; omega
        · split at h
          · rename_i c
            simp at h; subst h
            dsimp only
            refine ⟨c, f, ht2, by omega, fun u hu => ?_⟩
            rcases List.mem_append.1 hu with h | h
            · exact .inl (d u h)
            · simp at h; omega
          · cases h
      · simp only [gapTo]
        rw [List.pairwise_append]
        refine ⟨p, ?_, fun x hx y hy => ?_⟩
        · split <;> simp
        · split at hy
          · simp at hy; subst hy
            exact (g x hx).2.2.2.1
          · cases hy
theorem gaps_law {most : Int} {w : Win} {l : List Smp} (hs : serF l = 0) (hw : w.a ≤ w.b) : (gapsF most w l).Pairwise (fun x y => x.b < y.a) ∧ ∀ x ∈ gapsF most w l, most < x.b - x.a ∧ w.a ≤ x.a ∧ x.b ≤ w.b ∧ ∀ y ∈ l, y.q ≠ 2 → ¬(x.a ≤ y.t ∧ y.t < x.b) := by
  have hin : ∀ t ∈ endsF (withinF l w), w.a ≤ t ∧ t < w.b := fun t ht => by
    obtain ⟨x, hx, rfl⟩ := endsF_mem ht
    have := (List.mem_filter.1 hx).2
    simpa using this
  have hpw : (endsF (withinF l w)).Pairwise (fun a b => a < b) := by
    unfold endsF withinF
    rw [List.pairwise_map]
    exact ((incS_iff.1 (serF_inc hs)).filter _).filter _
  have h := gap_ok most w.a w.b (endsF (withinF l w) ++ [w.b]) [] (w.a, []) (by
    rw [List.pairwise_append]
    refine ⟨hpw, by simp, fun x hx y hy => ?_⟩
    simp at hy; subst hy
    exact (hin x hx).2) (fun t ht => by
      rcases List.mem_append.1 ht with h | h
      · have := hin t h; dsimp only; omega
      · simp at h; subst h; dsimp only; omega) ⟨Int.le_refl _, by simp, by simp, List.Pairwise.nil⟩
  refine ⟨?_, fun x hx => ?_⟩
  · have := h.p; rwa [← gapsF_ends] at this
  · have hg := h.g
    rw [← gapsF_ends] at hg
    obtain ⟨g1, g2, g3, _, g5⟩ := hg x hx
    refine ⟨g1, g2, g3, fun y hy hq hc => ?_⟩
    have : y.t ∈ endsF (withinF l w) := by
      unfold endsF withinF
      exact List.mem_map.2 ⟨y, List.mem_filter.2 ⟨List.mem_filter.2 ⟨hy, by simp; omega⟩, by simpa using hq⟩, rfl⟩
    have := g5 y.t (by simp [this])
    omega
/-- runs: all samples of one are alike -/
theorem runE_good (l : List Smp) (i : Nat) : ∀ (f k j : Nat), k ≤ j → j < runE l i f k → goodP l i j = true
  | 0, k, j, h1, h2 => by unfold runE at h2; omega
  | f + 1, k, j, h1, h2 => by
    unfold runE at h2
    split at h2
    · rename_i c
      rcases Nat.eq_or_lt_of_le h1 with rfl | h3
      · exact c
      · exact runE_good l i f (k + 1) j h3 h2
    · omega
theorem stuckGo_law (l : List Smp) : ∀ (f i : Nat), ∀ x ∈ stuckGo l 2 f i, ∃ i k, i + 2 ≤ k ∧ k ≤ l.length ∧ x = winOf l i k ∧ ∀ j, i < j → j < k → goodP l i j = true
  | 0, _, x, hx => by simp [stuckGo] at hx
  | f + 1, i, x, hx => by
    rw [stuckGo] at hx
    split at hx
    · rename_i hi
      rcases List.mem_append.1 hx with h | h
      · unfold piece at h
        split at h
        · rename_i c
          simp at h
          have hb := endR_bd hi
          exact ⟨i, endR l i, by omega, hb.2, h, fun j h1 h2 => runE_good l i l.length (i + 1) j h1 h2⟩
        · cases h
      · exact stuckGo_law l f _ x h
    · cases hx
def valsF (l : List Smp) (x : Win) : List Int := (l.filter (fun y => decide (x.a ≤ y.t ∧ y.t < x.b))).map (fun y => y.v)
theorem minL_all {c : Int} : ∀ (g : List Int), g ≠ [] → (∀ v ∈ g, v = c) → minL g = c ∧ maxL g = c := by
  intro g
  refine snoc_ind (P := fun g => g ≠ [] → (∀ v ∈ g, v = c) → minL g = c ∧ maxL g = c) (fun h => absurd rfl h) (fun l v ih _ h => ?_) g
  rw [minL_snoc, maxL_snoc]
  have hv := h v (by simp)
  by_cases e : l = []
  · rw [if_pos e, if_pos e]; exact ⟨hv, hv⟩
  · obtain ⟨h1, h2⟩ := ih e (fun u hu => h u (by simp [hu]))
    rw [if_neg e, if_neg e, h1, h2, hv]
    omega
theorem stuck_law {l : List Smp} (hs : serF l = 0) : ∀ x ∈ stuckF l 2 0, 2 ≤ (valsF l x).length ∧ minL (valsF l x) = maxL (valsF l x) := by
  intro x hx
  obtain ⟨i, k, h1, h2, rfl, h3⟩ := stuckGo_law l _ _ x hx
  have hinc := serF_inc hs
  have hi : i < l.length := by omega
  have hk : k - 1 < l.length := by omega
  have e1 : (winOf l i k).a = l[i].t := by unfold winOf; simp [List.getD, hi]
  have e2 : (winOf l i k).b = l[k - 1].t + 1 := by unfold winOf; simp [List.getD, hk]
  have hle : ∀ a b (ha : a < l.length) (hb : b < l.length), a ≤ b → l[a].t ≤ l[b].t := fun a b ha hb hab => by
    rcases Nat.eq_or_lt_of_le hab with rfl | h
    · exact Int.le_refl _
    · exact Int.le_of_lt (hinc a b hb h)
  have hall : ∀ v ∈ valsF l (winOf l i k), v = l[i].v := by
    intro v hv
    obtain ⟨y, hy, rfl⟩ := List.mem_map.1 hv
    obtain ⟨hy1, hy2⟩ := List.mem_filter.1 hy
    obtain ⟨j, hj, rfl⟩ := List.getElem_of_mem hy1
    rw [e1, e2, decide_eq_true_eq] at hy2
    have g1 : i ≤ j := by
      apply Classical.byContradiction
      intro h
      have := hinc j i hi (by omega)
      omega
    have g2 : j ≤ k - 1 := by
      apply Classical.byContradiction
      intro h
      have := hinc (k - 1) j hj (by omega)
      omega
    rcases Nat.eq_or_lt_of_le g1 with rfl | h
    · rfl
    · have := h3 j h (by omega)
      rw [goodP_at hi hj] at this
      simp at this
      exact this.2.2
  have hsub : [l[i], l[i + 1]].Sublist l := by
    have h4 : l.drop i = l[i] :: l[i + 1] :: l.drop (i + 2) := by
      rw [List.drop_eq_getElem_cons hi, List.drop_eq_getElem_cons (by omega)]
    refine List.Sublist.trans ?_ (List.drop_sublist i l)
    rw [h4]
    exact List.Sublist.cons₂ _ (List.Sublist.cons₂ _ (List.nil_sublist _))
  have h5 := hsub.filter (fun y => decide ((winOf l i k).a ≤ y.t ∧ y.t < (winOf l i k).b))
  have b1 := hle i (i + 1) hi (by omega) (by omega)
  have b2 := hle i (k - 1) hi hk (by omega)
  have b3 := hle (i + 1) (k - 1) (by omega) hk (by omega)
  have h6 : ([l[i], l[i + 1]].filter (fun y => decide ((winOf l i k).a ≤ y.t ∧ y.t < (winOf l i k).b))) = [l[i], l[i + 1]] := by
    rw [List.filter_eq_self]
    intro y hy
    rw [e1, e2, decide_eq_true_eq]
    simp only [List.mem_cons, List.not_mem_nil, or_false] at hy
    rcases hy with rfl | rfl <;> omega
  rw [h6] at h5
  have h7 := h5.length_le
  have h8 : 2 ≤ (valsF l (winOf l i k)).length := by unfold valsF; rw [List.length_map]; exact h7
  refine ⟨h8, ?_⟩
  obtain ⟨h9, h10⟩ := minL_all (valsF l (winOf l i k)) (fun e => by rw [e] at h8; simp at h8) hall
  rw [h9, h10]
end Go.Proofs.YtdcedhgkigpejaaGreatDoor
