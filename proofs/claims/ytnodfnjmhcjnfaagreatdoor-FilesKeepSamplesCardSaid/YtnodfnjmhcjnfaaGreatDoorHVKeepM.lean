/- What is appended to a file is found in it. No program in sight. -/
import Derived.Test.YtnodfnjmhcjnfaaGreatDoorHVBlkR
namespace Go.Proofs.YtnodfnjmhcjnfaaGreatDoor
open Go Go.RowKit
set_option maxRecDepth 100000
set_option linter.all false
set_option maxHeartbeats 2000000
theorem take_parts {α : Type} (n : Nat) (l : List α) : ∀ m, (List.range m).flatMap (parts n l) = l.take (m * n)
  | 0 => by simp
  | m + 1 => by
    rw [List.range_succ, List.flatMap_append, take_parts n l m]
    simp only [List.flatMap_cons, List.flatMap_nil, List.append_nil, parts]
    rw [Nat.succ_mul, List.take_add]
theorem pcs_flat (tag : ByteArray) (l : List Smp) (o : Bool) : ∀ (ks : List Nat) (p : Nat), (pcs tag l o p ks).flatMap (fun x => x.ss) = ks.flatMap (parts 100 l)
  | [], _ => rfl
  | k :: ks, p => by simp only [pcs, List.flatMap_cons, pcs_flat tag l o ks]
theorem pcs_tag (tag : ByteArray) (l : List Smp) (o : Bool) : ∀ (ks : List Nat) (p : Nat), ∀ x ∈ pcs tag l o p ks, x.b.tag = tag
  | [], _, x, h => by cases h
  | k :: ks, p, x, h => by
    simp only [pcs, List.mem_cons] at h
    rcases h with rfl | h
    · rfl
    · exact pcs_tag tag l o ks _ x h
theorem nch_flat (l : List Smp) : (List.range (nch l)).flatMap (parts 100 l) = l := by
  rw [take_parts]
  exact List.take_of_length_le (by unfold nch; omega)
theorem late_norm {last : Int} : ∀ {l : List Smp}, risS l → lateL last l ++ normL last l = l
  | [], _ => rfl
  | x :: r, h => by
    have hp := List.pairwise_cons.1 h
    have ih := late_norm (last := last) (l := r) hp.2
    by_cases hx : last < x.t
    · have h1 : lateL last (x :: r) = [] := by
        unfold lateL
        refine List.filter_eq_nil_iff.2 (fun y hy => ?_)
        rcases List.mem_cons.1 hy with rfl | hy
        · simp; omega
        · have := hp.1 y hy
          simp; omega
      have h2 : normL last (x :: r) = x :: r := by
        unfold normL
        refine List.filter_eq_self.2 (fun y hy => ?_)
        rcases List.mem_cons.1 hy with rfl | hy
        · exact decide_eq_true hx
        · have := hp.1 y hy
          exact decide_eq_true (by omega)
      rw [h1, h2]; rfl
    · have h1 : lateL last (x :: r) = x :: lateL last r := by unfold lateL; rw [List.filter_cons, if_pos (by simpa using hx)]
      have h2 : normL last (x :: r) = normL last r := by unfold normL; rw [List.filter_cons, if_neg (by simpa using hx)]
      rw [h1, h2, List.cons_append, ih]
theorem newP_flat {file : List UInt8} {tag : ByteArray} {l : List Smp} (h : risS l) : (newP file tag l).flatMap (fun x => x.ss) = l := by
  unfold newP
  rw [List.flatMap_append, pcs_flat, pcs_flat, nch_flat, nch_flat]
  exact late_norm h
theorem newP_tag {file : List UInt8} {tag : ByteArray} {l : List Smp} : ∀ x ∈ newP file tag l, x.b.tag = tag := by
  intro x h
  unfold newP at h
  rcases List.mem_append.1 h with h | h
  · exact pcs_tag _ _ _ _ _ x h
  · exact pcs_tag _ _ _ _ _ x h
theorem flat_tag {ps : List Pc} {tag : ByteArray} {a b : Int} (ht : ∀ x ∈ ps, x.b.tag = tag) (hs : ∀ y ∈ ps.flatMap (fun x => x.ss), a ≤ y.t ∧ y.t < b) : ps.flatMap (flatQ tag a b) = ps.flatMap (fun x => x.ss) := by
  induction ps with
  | nil => rfl
  | cons x r ih =>
    rw [List.flatMap_cons, List.flatMap_cons, ih (fun y hy => ht y (by simp [hy])) (fun y hy => hs y (by rw [List.flatMap_cons]; exact List.mem_append_right _ hy))]
    congr 1
    unfold flatQ
    rw [if_pos (ht x (by simp))]
    exact List.filter_eq_self.2 (fun y hy => decide_eq_true (hs y (by rw [List.flatMap_cons]; exact List.mem_append_left _ hy)))
theorem flat_other {ps : List Pc} {tag t : ByteArray} {a b : Int} (ht : ∀ x ∈ ps, x.b.tag = tag) (hne : tag ≠ t) : ps.flatMap (flatQ t a b) = [] := by
  induction ps with
  | nil => rfl
  | cons x r ih =>
    rw [List.flatMap_cons, ih (fun y hy => ht y (by simp [hy]))]
    unfold flatQ
    rw [if_neg (by rw [ht x (by simp)]; exact hne)]
    rfl
def FGood (k : Nat) (f : List UInt8) : Prop := (par f).2.2 = 0 ∧ f.length ≤ 16000 * k ∧ ssL (par f).1 ≤ 205 * k
theorem FGood.nil : FGood 0 [] := ⟨rfl, by simp, by show ssL (par []).1 ≤ 0; exact Nat.le_of_eq rfl⟩
theorem FGood.up {k : Nat} {f : List UInt8} (h : FGood k f) : FGood (k + 1) f := ⟨h.1, by have := h.2.1; omega, by have := h.2.2; omega⟩
theorem appB_len {f : List UInt8} {tag : ByteArray} {l : List Smp} (hk : tag.size ≤ 40) (hs : ∀ s ∈ l, smlS s) (hl : l.length ≤ 205) : (appB f tag l).length ≤ f.length + 12000 := by
  have m1 : ∀ last, ∀ x ∈ lateL last l, smlS x := fun last x hx => hs x (List.mem_filter.1 hx).1
  have m2 : ∀ last, ∀ x ∈ normL last l, smlS x := fun last x hx => hs x (List.mem_filter.1 hx).1
  unfold appB
  generalize lastO (par f).1 tag = last
  have h1 := List.length_filter_le (fun x : Smp => decide (¬ last < x.t)) l
  have h2 := List.length_filter_le (fun x : Smp => decide (last < x.t)) l
  have k1 := chB_40 tag (lateL last l) true hk (m1 last) (List.range (nch (lateL last l)))
  have k2 := chB_40 tag (normL last l) false hk (m2 last) (List.range (nch (normL last l)))
  rw [List.length_range] at k1 k2
  have q1 : nch (lateL last l) ≤ 3 := by unfold nch lateL; omega
  have q2 : nch (normL last l) ≤ 3 := by unfold nch normL; omega
  rw [List.length_append, List.length_append]
  omega
theorem FGood.app {k : Nat} {f : List UInt8} {tag : ByteArray} {l : List Smp} (h : FGood k f) (hl : l.length ≤ 205) (he : (appRes f tag l).2 = 0) : FGood (k + 1) (appRes f tag l).1 := by
  obtain ⟨h1, h2, h3, h4, h5, h6⟩ := append_par he
  have hris := ((serP_iff l).1 h6).2.2
  refine ⟨by rw [h1], ?_, ?_⟩
  · rw [h4]
    have := appB_len (f := f) (tag := tag) (l := l) h5.2.1 (serF_sml h6) hl
    have := h.2.1
    omega
  · rw [h1]
    dsimp only
    rw [ssL_app]
    have e : ssL (newP f tag l) = l.length := by unfold ssL; rw [newP_flat hris]
    have := h.2.2
    omega
theorem FGood.res {k : Nat} {f : List UInt8} {tag : ByteArray} {l : List Smp} (h : FGood k f) (hk : k ≤ 6) (ht : isKey tag) (hs : serF l = 0) (hl : l.length ≤ 205) : appRes f tag l = (appB f tag l, 0) := by
  have h1 := appB_len (f := f) (tag := tag) (l := l) ht.2.1 (serF_sml hs) hl
  have h2 := h.2.1
  rw [appRes_tg, show tgE f tag = 0 by unfold tgE; rw [if_neg (by simpa using h.1), if_pos ht], if_neg (by decide), if_neg (by simpa using hs), if_neg (by omega)]
theorem FGood.few {k : Nat} {f : List UInt8} (h : FGood k f) (t : ByteArray) (a b : Int) : (qryF (par f).1 t a b).length ≤ 205 * k := by
  unfold qryF
  rw [serM_len]
  have h1 := puts_len ((par f).1.flatMap (flatQ t a b)) []
  have h2 := flatm_len (flatQ t a b) (fun x : Pc => x.ss) (fun x => flatQ_sub) (par f).1
  have h3 : (pfS ((par f).1.flatMap (flatQ t a b))).length ≤ ((par f).1.flatMap (flatQ t a b)).length := by simpa [pfS] using h1
  have h4 := h.2.2
  unfold ssL at h4
  omega
theorem fnd_ser {m : List Smp} (hm : (m.map (·.t)).Nodup) (t : Int) : fnd t (serM m) = fnd t m := by
  have hs : ((serM m).map (·.t)).Nodup := by
    rw [serM_t]
    exact (srtI_lt hm).imp (fun h => by omega)
  refine Option.ext fun x => ?_
  constructor
  · intro h
    have h1 := fnd_some h
    have h2 := serM_mem h1.1
    have h3 := (mem_fnd hm).1 h2
    rwa [h1.2] at h3
  · intro h
    have h1 := fnd_some h
    have h2 : x ∈ serM m := by
      unfold serM
      refine List.mem_filterMap.2 ⟨t, srtI_mem.2 (List.mem_map.2 ⟨x, h1.1, h1.2⟩), h⟩
    have h3 := (mem_fnd hs).1 h2
    rwa [h1.2] at h3
theorem fnd_filt {l : List Smp} {p : Int → Bool} (t : Int) (hp : p t = true) : fnd t (l.filter fun y => p y.t) = fnd t l := by
  induction l with
  | nil => rfl
  | cons y r ih =>
    rw [List.filter_cons]
    by_cases h : p y.t = true
    · rw [if_pos h, fnd_nx, fnd_nx, ih]
    · rw [if_neg h, fnd_nx, if_neg (fun e => h (by rw [← e]; exact hp)), ih]
theorem want_after {X a w : List Smp} (ha : (a.map (·.t)).Nodup) (hw : w.Perm (a ++ (serM (pfS X)).filter fun y => !a.any fun z => decide (z.t = y.t))) (hso : w.Pairwise (fun x y => ¬ y.t < x.t)) : w = serM (pfS (X ++ a)) := by
  have hs : ((serM (pfS X)).map (·.t)).Nodup := by
    rw [serM_t]
    exact (srtI_lt (pfS_nd X)).imp (fun h => by omega)
  have hany : ∀ t, (a.any fun z => decide (z.t = t)) = (fnd t a).isSome := fun t => by
    rw [← any_fnd]
    congr 1
    funext z
    rw [decide_eq_decide]
    exact eq_comm
  have hnd : ((a ++ (serM (pfS X)).filter fun y => !a.any fun z => decide (z.t = y.t)).map (·.t)).Nodup := by
    rw [List.map_append, List.nodup_append]
    refine ⟨ha, hs.sublist (List.filter_sublist.map _), fun t ht u hu e => ?_⟩
    obtain ⟨x, hx, rfl⟩ := List.mem_map.1 ht
    obtain ⟨y, hy, rfl⟩ := List.mem_map.1 hu
    have := (List.mem_filter.1 hy).2
    simp only [Bool.not_eq_true', List.any_eq_false, decide_eq_true_eq] at this
    exact this x hx e
  refine sorted_ser hw hso hnd (pfS_nd _) (fun t => ?_)
  rw [pfS_fnd, List.reverse_append, fnd_app, fnd_app, fnd_rev ha]
  cases h : fnd t a with
  | some x => rfl
  | none =>
    simp only [Option.none_or]
    rw [← pfS_fnd, ← fnd_ser (pfS_nd X)]
    exact fnd_filt (p := fun u => !a.any fun z => decide (z.t = u)) t (by rw [hany, h]; rfl)
theorem keep_same {f : List UInt8} {tag : ByteArray} {l : List Smp} (he : (appRes f tag l).2 = 0) : (par (appRes f tag l).1).1.flatMap (flatQ tag 0 345686400000) = (par f).1.flatMap (flatQ tag 0 345686400000) ++ l := by
  obtain ⟨h1, h2, h3, h4, h5, h6⟩ := append_par he
  have hris := ((serP_iff l).1 h6).2.2
  have hmom : ∀ y ∈ l, (0 : Int) ≤ y.t ∧ y.t < 345686400000 := fun y hy => by
    have := ((serP_iff l).1 h6).2.1 y hy
    unfold smpErr at this
    split at this <;> omega
  rw [h1]
  dsimp only
  rw [List.flatMap_append, flat_tag newP_tag (by rw [newP_flat hris]; exact hmom), newP_flat hris]
theorem keep_other {f : List UInt8} {tag t : ByteArray} {l : List Smp} (he : (appRes f tag l).2 = 0) (hne : tag ≠ t) (a b : Int) : qryF (par (appRes f tag l).1).1 t a b = qryF (par f).1 t a b := by
  obtain ⟨h1, _⟩ := append_par he
  rw [h1]
  unfold qryF
  dsimp only
  rw [List.flatMap_append, flat_other newP_tag hne, List.append_nil]
end Go.Proofs.YtnodfnjmhcjnfaaGreatDoor
