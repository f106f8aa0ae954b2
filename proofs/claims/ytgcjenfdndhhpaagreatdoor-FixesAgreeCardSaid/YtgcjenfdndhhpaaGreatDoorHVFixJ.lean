/- A fix that is overridden by later ones has no effect at any moment. No program in sight. -/
import Derived.Test.YtgcjenfdndhhpaaGreatDoorHVFixE
import Derived.Test.YtgcjenfdndhhpaaGreatDoorHVFixH
namespace Go.Proofs.YtgcjenfdndhhpaaGreatDoor
open Go Go.RowKit
set_option maxRecDepth 100000
set_option linter.all false
/-- one fix more, at a moment: what is there after it -/
def stO (t : Int) (o : Option Smp) (y : Fix) : Option Smp := if y.kind = 1 then (if t = y.s.t then some y.s else o) else if y.kind = 2 then (if t = y.t then none else o) else if y.kind = 3 then o.map (mkF y) else o
theorem fnd_ap {t : Int} {m : List Smp} {y : Fix} (hn : (m.map (·.t)).Nodup) : fnd t (apF m y) = stO t (fnd t m) y := by
  unfold apF stO
  by_cases k1 : y.kind = 1
  · rw [if_pos k1, if_pos k1, fnd_put]
  by_cases k2 : y.kind = 2
  · rw [if_neg k1, if_neg k1, if_pos k2, if_pos k2, fnd_del _ _ _ hn]
  by_cases k3 : y.kind = 3
  · rw [if_neg k1, if_neg k1, if_neg k2, if_neg k2, if_pos k3, if_pos k3, fnd_mark]
  · rw [if_neg k1, if_neg k1, if_neg k2, if_neg k2, if_neg k3, if_neg k3]
theorem fnd_aps {t : Int} : ∀ (fs : List Fix) (m : List Smp), (m.map (·.t)).Nodup → fnd t (fs.foldl apF m) = fs.foldl (stO t) (fnd t m)
  | [], _, _ => rfl
  | y :: r, m, hn => by rw [List.foldl_cons, fnd_aps r _ (apF_nd hn), fnd_ap hn, List.foldl_cons]
/-- what is there at that moment, and right -/
def okO (t : Int) (o : Option Smp) : Prop := ∀ x, o = some x → x.t = t ∧ (x.q = 2 → x.v = 0)
def fxV (y : Fix) : Prop := (y.kind = 1 → y.s.q = 2 → y.s.v = 0) ∧ (y.kind = 3 → 0 ≤ y.q ∧ y.q ≤ 2)
theorem okO_st {t : Int} {o : Option Smp} {y : Fix} (hy : fxV y) (h : okO t o) : okO t (stO t o y) := by
  intro x hx
  unfold stO at hx
  split at hx
  · rename_i k
    split at hx
    · rename_i e
      injection hx with hx
      subst hx
      exact ⟨e.symm, hy.1 k⟩
    · exact h x hx
  · split at hx
    · split at hx
      · cases hx
      · exact h x hx
    · split at hx
      · cases o with
        | none => cases hx
        | some z =>
          simp only [Option.map_some, Option.some.injEq] at hx
          have hz := h z rfl
          subst hx
          refine ⟨by rw [mkF_t]; exact hz.1, ?_⟩
          unfold mkF
          split
          · dsimp only
            intro h2
            rw [if_pos h2]
          · exact hz.2
      · exact h x hx
/-- a fix that sets or deletes at a moment -/
def atF (t : Int) (y : Fix) : Prop := (y.kind = 1 ∨ y.kind = 2) ∧ tcF y = t
theorem st_at {t : Int} {y : Fix} (h : atF t y) (u v : Option Smp) : stO t u y = stO t v y := by
  obtain ⟨k | k, e⟩ := h
  · unfold tcF at e
    rw [if_pos k] at e
    unfold stO
    rw [if_pos k, if_pos k, if_pos e.symm, if_pos e.symm]
  · unfold tcF at e
    rw [if_neg (by omega)] at e
    have k1 : ¬ y.kind = 1 := by omega
    unfold stO
    rw [if_neg k1, if_neg k1, if_pos k, if_pos k, if_pos e.symm, if_pos e.symm]
theorem st_no {t : Int} {x : Fix} (k : x.kind ≠ 3) (h : ¬ tcF x = t) (u : Option Smp) : stO t u x = u := by
  unfold tcF at h
  unfold stO
  by_cases k1 : x.kind = 1
  · rw [if_pos k1] at h
    rw [if_pos k1, if_neg (fun e => h e.symm)]
  · rw [if_neg k1] at h
    rw [if_neg k1]
    split
    · rw [if_neg (fun e => h e.symm)]
    · rfl
theorem at_all {t : Int} : ∀ (l : List Fix), (∃ y ∈ l, atF t y) → ∀ u v : Option Smp, l.foldl (stO t) u = l.foldl (stO t) v
  | [], h, _, _ => by obtain ⟨y, hy, _⟩ := h; cases hy
  | y :: r, h, u, v => by
    rw [List.foldl_cons, List.foldl_cons]
    by_cases hy : atF t y
    · rw [st_at hy u v]
    · refine at_all r ?_ _ _
      obtain ⟨z, hz, h⟩ := h
      rcases List.mem_cons.1 hz with rfl | hz
      · exact absurd h hy
      · exact ⟨z, hz, h⟩
theorem gn_at {x : Fix} (hx : x.kind ≠ 3) : ∀ (l : List Fix), (∀ y ∈ l, y.kind = 1 ∨ y.kind = 2 ∨ y.kind = 3) → gnB x l = true → ∃ y ∈ l, atF (tcF x) y
  | [], _, h => by cases h
  | y :: r, hk, h => by
    have e1 : gn1 x y = if y.kind ≠ 3 ∧ tcF y = tcF x then 1 else 0 := by unfold gn1; rw [if_pos hx]
    rw [gnB, e1] at h
    by_cases c : y.kind ≠ 3 ∧ tcF y = tcF x
    · exact ⟨y, by simp, by have := hk y (by simp); omega, c.2⟩
    · rw [if_neg c] at h
      obtain ⟨z, hz, h⟩ := gn_at hx r (fun z hz => hk z (by simp [hz])) (by simpa using h)
      exact ⟨z, by simp [hz], h⟩
/-- what a mark that is taken back later has left -/
def mkR (x : Fix) (u' u : Option Smp) : Prop := u' = u ∨ ∃ s : Smp, u = some s ∧ s.q ≠ 2 ∧ u' = some ⟨s.t, if x.q = 2 then 0 else s.v, x.q⟩
theorem mark_st {t : Int} {y : Fix} (k : y.kind = 3) (o : Option Smp) : stO t o y = o.map (mkF y) := by
  have k1 : ¬ y.kind = 1 := by omega
  have k2 : ¬ y.kind = 2 := by omega
  unfold stO
  rw [if_neg k1, if_neg k2, if_pos k]
theorem mk_in {y : Fix} {s : Smp} (hw : y.w1 ≤ s.t ∧ s.t < y.w2) (hs : s.q ≠ 2) : mkF y s = ⟨s.t, if y.q = 2 then 0 else s.v, y.q⟩ := by unfold mkF; rw [if_pos ⟨hw, hs⟩]
theorem mk_out {y : Fix} {s : Smp} (hw : ¬ (y.w1 ≤ s.t ∧ s.t < y.w2)) : mkF y s = s := by unfold mkF; rw [if_neg (fun h => hw h.1)]
theorem mk_bad {y : Fix} {s : Smp} (hs : s.q = 2) : mkF y s = s := by unfold mkF; rw [if_neg (fun h => h.2 hs)]
theorem mkR_next {t : Int} {x y : Fix} {u' u : Option Smp} (ht : x.w1 ≤ t ∧ t < x.w2) (hy : y.kind = 1 ∨ y.kind = 2 ∨ y.kind = 3) (hno : ¬ (y.kind = 1 ∧ (x.w1 ≤ y.s.t ∧ y.s.t < x.w2))) (hu : okO t u) (hr : mkR x u' u) : mkR x (stO t u' y) (stO t u y) := by
  rcases hr with rfl | ⟨s, rfl, hs, rfl⟩
  · exact .inl rfl
  obtain ⟨h1, h2⟩ := hu s rfl
  rcases hy with k | k | k
  · have h3 : ¬ t = y.s.t := fun e => hno ⟨k, by rw [← e]; exact ht⟩
    unfold stO
    rw [if_pos k, if_pos k, if_neg h3, if_neg h3]
    exact .inr ⟨s, rfl, hs, rfl⟩
  · have k1 : ¬ y.kind = 1 := by omega
    unfold stO
    rw [if_neg k1, if_neg k1, if_pos k, if_pos k]
    by_cases e : t = y.t
    · rw [if_pos e, if_pos e]; exact .inl rfl
    · rw [if_neg e, if_neg e]; exact .inr ⟨s, rfl, hs, rfl⟩
  · rw [mark_st k, mark_st k]
    simp only [Option.map_some]
    subst h1
    by_cases hw : y.w1 ≤ s.t ∧ s.t < y.w2
    · rw [mk_in hw hs]
      by_cases hq : x.q = 2
      · rw [mk_bad (s := ⟨s.t, if x.q = 2 then 0 else s.v, x.q⟩) hq, if_pos hq]
        by_cases hyq : y.q = 2
        · left; rw [if_pos hyq, hq, hyq]
        · right
          exact ⟨_, rfl, hyq, by rw [if_pos hq]⟩
      · rw [mk_in (s := ⟨s.t, if x.q = 2 then 0 else s.v, x.q⟩) hw hq, if_neg hq]
        exact .inl rfl
    · rw [mk_out (s := ⟨s.t, if x.q = 2 then 0 else s.v, x.q⟩) hw, mk_out hw]
      exact .inr ⟨s, rfl, hs, rfl⟩
theorem mkR_end {t : Int} {x y : Fix} {u' u : Option Smp} (ht : x.w1 ≤ t ∧ t < x.w2) (hxq : 0 ≤ x.q ∧ x.q ≤ 2) (hyq : 0 ≤ y.q ∧ y.q ≤ 2) (hc : y.kind = 3 ∧ y.w1 ≤ x.w1 ∧ x.w2 ≤ y.w2 ∧ x.q ≤ y.q) (hu : okO t u) (hr : mkR x u' u) : stO t u' y = stO t u y := by
  rcases hr with rfl | ⟨s, rfl, hs, rfl⟩
  · rfl
  obtain ⟨h1, h2⟩ := hu s rfl
  rw [mark_st hc.1, mark_st hc.1]
  simp only [Option.map_some]
  subst h1
  have hw : y.w1 ≤ s.t ∧ s.t < y.w2 := by omega
  rw [mk_in hw hs]
  by_cases hq : x.q = 2
  · have : y.q = 2 := by omega
    rw [mk_bad (s := ⟨s.t, if x.q = 2 then 0 else s.v, x.q⟩) hq, if_pos hq, if_pos this, hq, this]
  · rw [mk_in (s := ⟨s.t, if x.q = 2 then 0 else s.v, x.q⟩) hw hq, if_neg hq]
theorem gn_mark {t : Int} {x : Fix} (hx : x.kind = 3) (hxq : 0 ≤ x.q ∧ x.q ≤ 2) (ht : x.w1 ≤ t ∧ t < x.w2) : ∀ (l : List Fix) (u' u : Option Smp), (∀ y ∈ l, (y.kind = 1 ∨ y.kind = 2 ∨ y.kind = 3) ∧ fxV y) → gnB x l = true → okO t u → mkR x u' u → l.foldl (stO t) u' = l.foldl (stO t) u
  | [], _, _, _, h, _, _ => by cases h
  | y :: r, u', u, hl, h, hu, hr => by
    obtain ⟨hk, hv⟩ := hl y (by simp)
    have e1 : gn1 x y = if y.kind = 1 ∧ (x.w1 ≤ y.s.t ∧ y.s.t < x.w2) then 2 else if y.kind = 3 ∧ y.w1 ≤ x.w1 ∧ x.w2 ≤ y.w2 ∧ x.q ≤ y.q then 1 else 0 := by unfold gn1; rw [if_neg (by simp [hx])]
    rw [gnB, e1] at h
    rw [List.foldl_cons, List.foldl_cons]
    by_cases c1 : y.kind = 1 ∧ (x.w1 ≤ y.s.t ∧ y.s.t < x.w2)
    · rw [if_pos c1] at h; simp at h
    · rw [if_neg c1] at h
      by_cases c2 : y.kind = 3 ∧ y.w1 ≤ x.w1 ∧ x.w2 ≤ y.w2 ∧ x.q ≤ y.q
      · rw [mkR_end ht hxq (hv.2 c2.1) c2 hu hr]
      · rw [if_neg c2] at h
        exact gn_mark hx hxq ht r _ _ (fun z hz => hl z (by simp [hz])) (by simpa using h) (okO_st hv hu) (mkR_next ht hk c1 hu hr)
/-- a fix that is overridden has no effect -/
theorem gn_none {t : Int} {x : Fix} {l : List Fix} (hx : (x.kind = 1 ∨ x.kind = 2 ∨ x.kind = 3) ∧ fxV x) (hl : ∀ y ∈ l, (y.kind = 1 ∨ y.kind = 2 ∨ y.kind = 3) ∧ fxV y) (h : gnB x l = true) (u : Option Smp) (hu : okO t u) : l.foldl (stO t) (stO t u x) = l.foldl (stO t) u := by
  by_cases k : x.kind = 3
  · by_cases ht : x.w1 ≤ t ∧ t < x.w2
    · refine gn_mark k (hx.2.2 k) ht l _ _ hl h hu ?_
      rw [mark_st k]
      cases u with
      | none => exact .inl rfl
      | some s =>
        obtain ⟨h1, h2⟩ := hu s rfl
        simp only [Option.map_some]
        unfold mkF
        rw [h1]
        by_cases hs : s.q = 2
        · left; rw [if_neg (by simp [hs])]
        · right
          refine ⟨s, rfl, hs, ?_⟩
          rw [if_pos ⟨ht, hs⟩, h1]
    · have e : stO t u x = u := by
        rw [mark_st k]
        cases u with
        | none => rfl
        | some s =>
          obtain ⟨h1, h2⟩ := hu s rfl
          simp only [Option.map_some]
          unfold mkF
          rw [h1, if_neg (fun h => ht h.1)]
      rw [e]
  · by_cases ht : tcF x = t
    · subst ht
      exact at_all l (gn_at k l (fun y hy => (hl y hy).1) h) _ _
    · rw [st_no k ht]
/-- those that are not overridden by later ones -/
def kpF : List Fix → List Fix
  | [] => []
  | x :: r => if gnB x r = true then kpF r else x :: kpF r
theorem kp_same {t : Int} : ∀ (l : List Fix) (u : Option Smp), (∀ y ∈ l, (y.kind = 1 ∨ y.kind = 2 ∨ y.kind = 3) ∧ fxV y) → okO t u → (kpF l).foldl (stO t) u = l.foldl (stO t) u
  | [], _, _, _ => rfl
  | x :: r, u, hl, hu => by
    have hx := hl x (by simp)
    have hr : ∀ y ∈ r, (y.kind = 1 ∨ y.kind = 2 ∨ y.kind = 3) ∧ fxV y := fun y hy => hl y (by simp [hy])
    rw [kpF]
    split
    · rename_i h
      rw [kp_same r u hr hu, List.foldl_cons, gn_none hx hr h u hu]
    · rw [List.foldl_cons, List.foldl_cons, kp_same r _ hr (okO_st hx.2 hu)]
theorem fnd_keys {t : Int} {m : List Smp} : t ∈ m.map (·.t) ↔ fnd t m ≠ none := by
  constructor
  · intro h
    obtain ⟨x, hx⟩ := find_keys h
    rw [hx]; simp
  · intro h
    by_cases c : t ∈ m.map (·.t)
    · exact c
    · exact absurd (fnd_none c) h
/-- a map's series is known by what is found in it -/
theorem serM_ext {m m' : List Smp} (h1 : (m.map (·.t)).Nodup) (h2 : (m'.map (·.t)).Nodup) (h : ∀ t, fnd t m = fnd t m') : serM m = serM m' := by
  have e : srtI (m.map (·.t)) = srtI (m'.map (·.t)) := by
    refine List.Perm.eq_of_pairwise (le := fun a b : Int => a < b) (fun a b _ _ h h' => by omega) (srtI_lt h1) (srtI_lt h2) ?_
    refine (List.perm_ext_iff_of_nodup ((srtI_lt h1).imp fun h e => by omega) ((srtI_lt h2).imp fun h e => by omega)).2 (fun t => ?_)
    rw [srtI_mem, srtI_mem, fnd_keys, fnd_keys, h]
  have e1 : serM m = (srtI (m.map (·.t))).filterMap fun s => fnd s m := rfl
  have e2 : serM m' = (srtI (m'.map (·.t))).filterMap fun s => fnd s m' := rfl
  rw [e1, e2, e]
  congr 1
  funext s
  exact h s
end Go.Proofs.YtgcjenfdndhhpaaGreatDoor
