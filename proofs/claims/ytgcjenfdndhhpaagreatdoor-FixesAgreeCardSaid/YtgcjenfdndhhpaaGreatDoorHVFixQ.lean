/- What a moment's sample is after fixes: the program's map and the document's walk, in plain words. No condition. -/
import Derived.Test.YtgcjenfdndhhpaaGreatDoorHVFixC
namespace Go.Proofs.YtgcjenfdndhhpaaGreatDoor
open Go Go.RowKit
set_option maxRecDepth 100000
set_option linter.all false
def fnd (t : Int) (m : List Smp) : Option Smp := m.find? fun y => decide (t = y.t)
theorem putS_cons (x y : Smp) (r : List Smp) : putS x (y :: r) = if x.t = y.t then x :: r else y :: putS x r := by
  unfold putS upsert
  rw [List.findIdx?_cons]
  by_cases h : x.t = y.t
  · simp [h]
  · simp only [h, decide_false, Bool.false_eq_true, if_false]
    cases hf : r.findIdx? (fun y => decide (x.t = y.t)) <;> simp
theorem fnd_put (t : Int) (x : Smp) : ∀ m : List Smp, fnd t (putS x m) = if t = x.t then some x else fnd t m
  | [] => by
    unfold fnd putS upsert
    by_cases h : t = x.t <;> simp [h]
  | y :: r => by
    have ih := fnd_put t x r
    rw [putS_cons]
    unfold fnd at ih ⊢
    by_cases h : x.t = y.t
    · rw [if_pos h, List.find?_cons, List.find?_cons]
      by_cases h2 : t = x.t
      · simp [h2]
      · have h3 : ¬ t = y.t := fun e => h2 (e.trans h.symm)
        simp [h2, h3]
    · rw [if_neg h, List.find?_cons, List.find?_cons, ih]
      by_cases h2 : t = y.t
      · have h3 : ¬ t = x.t := fun e => h (e.symm.trans h2)
        simp [h2, Ne.symm h]
      · simp [h2]
theorem delS_cons (t : Int) (y : Smp) (r : List Smp) : delS t (y :: r) = if t = y.t then r else y :: delS t r := by
  unfold delS
  rw [List.findIdx?_cons]
  by_cases h : t = y.t
  · simp [h]
  · simp only [h, decide_false, Bool.false_eq_true, if_false]
    cases hf : r.findIdx? (fun y => decide (t = y.t)) <;> simp
theorem fnd_none {t : Int} {m : List Smp} (h : t ∉ m.map (·.t)) : fnd t m = none := by
  unfold fnd
  rw [List.find?_eq_none]
  intro y hy e
  exact h (List.mem_map.2 ⟨y, hy, (of_decide_eq_true e).symm⟩)
theorem fnd_del (t s : Int) : ∀ m : List Smp, (m.map (·.t)).Nodup → fnd t (delS s m) = if t = s then none else fnd t m
  | [], _ => by simp [fnd, delS]
  | y :: r, hn => by
    rw [List.map_cons, List.nodup_cons] at hn
    have ih := fnd_del t s r hn.2
    rw [delS_cons]
    by_cases h : s = y.t
    · rw [if_pos h]
      by_cases h2 : t = s
      · rw [if_pos h2]
        exact fnd_none (by rw [h2, h]; exact hn.1)
      · rw [if_neg h2]
        unfold fnd
        have h3 : ¬ t = y.t := fun e => h2 (e.trans h.symm)
        rw [List.find?_cons]
        simp [h3]
    · rw [if_neg h]
      unfold fnd at ih ⊢
      rw [List.find?_cons, List.find?_cons, ih]
      by_cases h2 : t = y.t
      · have h3 : ¬ t = s := fun e => h (e.symm.trans h2)
        simp [h2, Ne.symm h]
      · simp [h2]
theorem fnd_mark (t : Int) (f : Fix) : ∀ m : List Smp, fnd t (m.map (mkF f)) = (fnd t m).map (mkF f)
  | [] => rfl
  | y :: r => by
    have ih := fnd_mark t f r
    unfold fnd at ih ⊢
    rw [List.map_cons, List.find?_cons, List.find?_cons, mkF_t, ih]
    by_cases h : t = y.t <;> simp [h]
theorem fnd_some {t : Int} {m : List Smp} {x : Smp} (h : fnd t m = some x) : x ∈ m ∧ x.t = t := ⟨List.mem_of_find?_eq_some h, (of_decide_eq_true (List.find?_some (p := fun y : Smp => decide (t = y.t)) h)).symm⟩
def relF (u : Smp × Bool) : Option Smp := if u.2 = true then some u.1 else none
theorem fx_kind {x : Fix} (h : fxErr x = 0) : x.kind = 1 ∨ x.kind = 2 ∨ x.kind = 3 := by
  unfold fxErr at h
  split at h
  · cases h
  · split at h
    · cases h
    · split at h
      · cases h
      · omega
theorem st_ap {made t : Int} {m : List Smp} {u : Smp × Bool} {y : Fix} (hm : y.made ≤ made) (he : fxErr y = 0) (hn : (m.map (·.t)).Nodup) (hv : ∀ x ∈ m, x.q = 2 → x.v = 0) (hr : relF u = fnd t m) : relF (stF made t u y) = fnd t (apF m y) := by
  unfold stF
  rcases fx_kind he with k | k | k
  · have e1 : tchB y t = decide (y.s.t = t) := by unfold tchB; rw [if_pos k]
    have e2 : apF m y = putS y.s m := by unfold apF; rw [if_pos k]
    rw [e1, e2, fnd_put]
    by_cases h : y.s.t = t
    · rw [if_neg (by simp [hm, h]), if_pos k, if_pos h.symm]
      rfl
    · rw [if_pos (by simp [h]), if_neg (fun e => h e.symm)]
      exact hr
  · have e1 : tchB y t = decide (y.t = t) := by unfold tchB; rw [if_neg (by omega), if_pos k]
    have e2 : apF m y = delS y.t m := by unfold apF; rw [if_neg (by omega), if_pos k]
    rw [e1, e2, fnd_del _ _ _ hn]
    by_cases h : y.t = t
    · rw [if_neg (by simp [hm, h]), if_neg (by omega), if_pos k, if_pos h.symm]
      rfl
    · rw [if_pos (by simp [h]), if_neg (fun e => h e.symm)]
      exact hr
  · have e1 : tchB y t = decide (y.w1 ≤ t ∧ t < y.w2) := by unfold tchB; rw [if_neg (by omega), if_neg (by omega)]
    have e2 : apF m y = m.map (mkF y) := by unfold apF; rw [if_neg (by omega), if_neg (by omega), if_pos k]
    rw [e1, e2, fnd_mark, ← hr]
    obtain ⟨x, b⟩ := u
    by_cases h : y.w1 ≤ t ∧ t < y.w2
    · rw [if_neg (by simp [hm, h]), if_neg (by omega), if_neg (by omega)]
      cases b with
      | false =>
        dsimp only
        split
        · split <;> rfl
        · rfl
      | true =>
        have hf : fnd t m = some x := hr.symm
        obtain ⟨h1, h2⟩ := fnd_some hf
        have h3 := hv x h1
        dsimp only
        by_cases q : x.q = 2
        · rw [if_neg (by simpa using q)]
          have e3 : mkF y x = x := by unfold mkF; rw [if_neg (by simp [q])]
          simp only [relF, if_true, Option.map_some, e3]
          obtain ⟨a, v, q'⟩ := x
          simp only at q h3 ⊢
          rw [h3 q]
        · rw [if_pos q]
          have e3 : mkF y x = ⟨x.t, if y.q = 2 then 0 else x.v, y.q⟩ := by unfold mkF; rw [if_pos ⟨by rw [h2]; exact h, q⟩]
          by_cases q2 : y.q = 2
          · rw [if_pos q2] at e3 ⊢
            simp only [relF, if_true, Option.map_some, e3]
          · rw [if_neg q2] at e3 ⊢
            simp only [relF, if_true, Option.map_some, e3]
    · rw [if_pos (by simp [h])]
      cases b with
      | false => rfl
      | true =>
        have hf : fnd t m = some x := hr.symm
        obtain ⟨h1, h2⟩ := fnd_some hf
        have e3 : mkF y x = x := by unfold mkF; rw [if_neg (fun hh => h (by rw [← h2]; exact hh.1))]
        simp only [relF, if_true, Option.map_some, e3]
theorem putS_nd {x : Smp} : ∀ {m : List Smp}, (m.map (·.t)).Nodup → ((putS x m).map (·.t)).Nodup ∧ ∀ t, t ∈ (putS x m).map (·.t) → t = x.t ∨ t ∈ m.map (·.t)
  | [], _ => by
    unfold putS upsert
    simp
  | y :: r, h => by
    rw [List.map_cons, List.nodup_cons] at h
    obtain ⟨h1, h2⟩ := putS_nd (x := x) h.2
    rw [putS_cons]
    by_cases e : x.t = y.t
    · rw [if_pos e]
      refine ⟨by rw [List.map_cons, List.nodup_cons, e]; exact h, fun t ht => ?_⟩
      rw [List.map_cons] at ht
      rcases List.mem_cons.1 ht with h3 | h3
      · exact .inl h3
      · exact .inr (by rw [List.map_cons]; exact List.mem_cons_of_mem _ h3)
    · rw [if_neg e]
      refine ⟨?_, fun t ht => ?_⟩
      · rw [List.map_cons, List.nodup_cons]
        refine ⟨fun hy => ?_, h1⟩
        rcases h2 _ hy with h3 | h3
        · exact e h3.symm
        · exact h.1 h3
      · rw [List.map_cons] at ht
        rcases List.mem_cons.1 ht with h3 | h3
        · exact .inr (by rw [List.map_cons, h3]; exact List.mem_cons_self)
        · rcases h2 t h3 with h4 | h4
          · exact .inl h4
          · exact .inr (by rw [List.map_cons]; exact List.mem_cons_of_mem _ h4)
theorem delS_sub (t : Int) (m : List Smp) : (delS t m).Sublist m := by
  unfold delS
  split
  · exact List.eraseIdx_sublist ..
  · exact List.Sublist.refl _
theorem apF_nd {m : List Smp} {y : Fix} (h : (m.map (·.t)).Nodup) : ((apF m y).map (·.t)).Nodup := by
  unfold apF
  split
  · exact (putS_nd h).1
  · split
    · exact h.sublist ((delS_sub _ _).map _)
    · split
      · rw [List.map_map, show ((fun x : Smp => x.t) ∘ mkF y) = (fun x => x.t) from funext fun x => mkF_t y x]
        exact h
      · exact h
theorem apF_v {m : List Smp} {y : Fix} (he : fxErr y = 0) (h : ∀ x ∈ m, x.q = 2 → x.v = 0) : ∀ x ∈ apF m y, x.q = 2 → x.v = 0 := by
  intro x hx
  unfold apF at hx
  split at hx
  · rename_i k
    rcases putS_mem hx with rfl | h1
    · exact (smp_ok (fx_moment he k)).2.2.2
    · exact h x h1
  · split at hx
    · exact h x (delS_mem hx)
    · split at hx
      · obtain ⟨z, hz, rfl⟩ := List.mem_map.1 hx
        unfold mkF
        split
        · dsimp only
          intro hq
          rw [if_pos hq]
        · exact h z hz
      · exact h x hx
theorem fold_rel {a t : Int} : ∀ (fs : List Fix) (m : List Smp) (u : Smp × Bool), (∀ f ∈ fs, f.made ≤ a ∧ fxErr f = 0) → (m.map (·.t)).Nodup → (∀ x ∈ m, x.q = 2 → x.v = 0) → relF u = fnd t m → relF (fs.foldl (stF a t) u) = fnd t (fs.foldl apF m)
  | [], _, _, _, _, _, hr => hr
  | f :: r, m, u, hf, hn, hv, hr => by
    obtain ⟨h1, h2⟩ := hf f (by simp)
    exact fold_rel r (apF m f) (stF a t u f) (fun g hg => hf g (by simp [hg])) (apF_nd hn) (apF_v h2 hv) (st_ap h1 h2 hn hv hr)
theorem putS_new {x : Smp} {m : List Smp} (h : x.t ∉ m.map (·.t)) : putS x m = m ++ [x] := by
  unfold putS upsert
  rw [List.findIdx?_eq_none_iff.2 (fun y hy => by
    have : x.t ≠ y.t := fun e => h (List.mem_map.2 ⟨y, hy, e.symm⟩)
    simpa using this)]
theorem puts_id : ∀ (l m : List Smp), ((m ++ l).map (·.t)).Nodup → l.foldl (fun m x => putS x m) m = m ++ l
  | [], m, _ => by simp
  | x :: r, m, h => by
    have hx : x.t ∉ m.map (·.t) := by
      intro hm
      rw [List.map_append, List.nodup_append] at h
      exact h.2.2 _ hm _ (by rw [List.map_cons]; exact List.mem_cons_self) rfl
    rw [List.foldl_cons, putS_new hx, puts_id r (m ++ [x]) (by simpa using h)]
    simp
theorem ini_rel {l : List Smp} {t : Int} (h : (l.map (·.t)).Nodup) : relF (iniF l t) = fnd t (l.foldl (fun m x => putS x m) []) := by
  rw [puts_id l [] (by simpa using h), List.nil_append]
  unfold iniF fnd relF
  have e : (fun x : Smp => decide (x.t = t)) = fun y => decide (t = y.t) := by funext y; simp only [eq_comm]
  rw [e]
  cases l.find? (fun y => decide (t = y.t)) <;> rfl
theorem skip_rel {a t : Int} : ∀ (fs : List Fix) (u : Smp × Bool), (∀ f ∈ fs, ¬ f.made ≤ a) → fs.foldl (stF a t) u = u
  | [], _, _ => rfl
  | f :: r, u, h => by
    have e : stF a t u f = u := by unfold stF; rw [if_pos (Or.inl (h f (by simp)))]
    rw [List.foldl_cons, e]
    exact skip_rel r u (fun g hg => h g (by simp [hg]))
theorem fxC_le {a b : Fix} (h : 0 < fxC a b) : b.made ≤ a.made := by
  unfold fxC sgn at h
  split at h
  · split at h
    · omega
    · split at h <;> omega
  · omega
theorem fxGo_rise : ∀ (l : List Fix) (p : Option Fix), fxGo p l = 0 → (∀ b, p = some b → ∀ x ∈ l, b.made ≤ x.made) ∧ l.Pairwise (fun x y => x.made ≤ y.made)
  | [], p, _ => ⟨by simp, List.Pairwise.nil⟩
  | a :: t, p, h0 => by
    unfold fxGo at h0
    split at h0
    · rename_i h1; exact absurd h0 h1
    · rename_i h1
      have h2 : fxS p a = 0 := Classical.not_not.1 h1
      obtain ⟨h3, h4⟩ := fxGo_rise t (some a) h0
      refine ⟨fun b hb x hx => ?_, List.Pairwise.cons (fun x hx => h3 a rfl x hx) h4⟩
      subst hb
      have h5 : b.made ≤ a.made := by
        unfold fxS at h2
        split at h2
        · rename_i h6; exact absurd h2 h6
        · dsimp only at h2
          split at h2
          · cases h2
          · rename_i h6; exact fxC_le (by omega)
      rcases List.mem_cons.1 hx with rfl | hx
      · exact h5
      · exact Int.le_trans h5 (h3 a rfl x hx)
theorem rest_late {a : Int} : ∀ (l : List Fix), l.Pairwise (fun x y => x.made ≤ y.made) → ∀ f ∈ l.dropWhile (fun f => decide (f.made ≤ a)), ¬ f.made ≤ a
  | [], _, f, h => by simp at h
  | x :: r, hp, f, h => by
    rw [List.pairwise_cons] at hp
    rw [List.dropWhile_cons] at h
    by_cases hx : x.made ≤ a
    · rw [if_pos (by simpa using hx)] at h
      exact rest_late r hp.2 f h
    · rw [if_neg (by simpa using hx)] at h
      rcases List.mem_cons.1 h with rfl | h
      · exact hx
      · have := hp.1 f h
        omega
theorem fxUp_made {fs : List Fix} {a : Int} : ∀ f ∈ fxUp fs a, f.made ≤ a := by
  intro f hf
  unfold fxUp at hf
  induction fs with
  | nil => simp at hf
  | cons x r ih =>
    rw [List.takeWhile_cons] at hf
    split at hf
    · rename_i h1
      rcases List.mem_cons.1 hf with rfl | h
      · simpa using h1
      · exact ih h
    · simp at hf
/-- a moment's sample: the document's walk and the program's map -/
theorem fxAt_rel {l : List Smp} {fs : List Fix} {a t : Int} (hn : (l.map (·.t)).Nodup) (h1 : serF l = 0) (h2 : fxF fs = 0) : relF (fxAt l fs t a) = fnd t (fxM l (fxUp fs a)) := by
  have hs := (fxGo_rise fs none (fxF_go h2).2.1).2
  have e : fs = fxUp fs a ++ fs.dropWhile (fun f => decide (f.made ≤ a)) := (List.takeWhile_append_dropWhile).symm
  have e2 : fxAt l fs t a = (fxUp fs a).foldl (stF a t) (iniF l t) := by
    unfold fxAt
    conv => lhs; rw [e, List.foldl_append]
    exact skip_rel _ _ (rest_late fs hs)
  rw [e2]
  unfold fxM
  refine fold_rel _ _ _ (fun f hf => ⟨fxUp_made f hf, fxF_all h2 f ((fxUp_sub fs a).subset hf)⟩) ?_ ?_ (ini_rel hn)
  · rw [puts_id l [] (by simpa using hn), List.nil_append]
    exact hn
  · rw [puts_id l [] (by simpa using hn), List.nil_append]
    exact fun x hx => (smp_ok ((serF_ok h1).2 x hx)).2.2.2
theorem srtI_leF (l : List Int) : (srtI l).Pairwise (fun a b => a ≤ b) := by
  unfold srtI
  have h := List.pairwise_mergeSort (le := fun x y : Int => decide (x ≤ y)) (fun a b c h1 h2 => by simp only [decide_eq_true_eq] at *; omega) (fun a b => by simp only [Bool.or_eq_true, decide_eq_true_eq]; omega) l
  exact h.imp (fun h => of_decide_eq_true h)
theorem srtI_lt {l : List Int} (h : l.Nodup) : (srtI l).Pairwise (fun a b => a < b) := by
  have h1 := srtI_leF l
  have h2 : (srtI l).Nodup := by unfold srtI; exact (List.mergeSort_perm l _).nodup_iff.2 h
  exact (h1.and h2).imp (fun h => by obtain ⟨h1, h2⟩ := h; omega)
theorem apAll_nd : ∀ (fs : List Fix) (m : List Smp), (m.map (·.t)).Nodup → ((fs.foldl apF m).map (·.t)).Nodup
  | [], _, h => h
  | f :: r, m, h => apAll_nd r (apF m f) (apF_nd h)
end Go.Proofs.YtgcjenfdndhhpaaGreatDoor
