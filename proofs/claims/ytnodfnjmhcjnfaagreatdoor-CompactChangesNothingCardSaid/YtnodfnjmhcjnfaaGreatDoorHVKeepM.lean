/- What is appended to a file is found in it. No program in sight. -/
import Derived.Test.YtnodfnjmhcjnfaaGreatDoorHVCmpk
namespace Go.Proofs.YtnodfnjmhcjnfaaGreatDoor
open Go Go.RowKit
set_option maxRecDepth 100000
set_option linter.all false
set_option maxHeartbeats 2000000
theorem take_parts {α : Type} (n : Nat) (l : List α) : ∀ m, (List.range m).flatMap (parts n l) = l.take (m * n)
  | 0 => by simp
  | m + 1 => by
    rw [List.range_succ, List.flatMap_append, take_parts n l m]
    simp only [List.flatMap_cons, List.flatMap_nil, List.append_nil, parts]
    rw [Nat.succ_mul, List.take_add]
theorem pcs_flat (tag : ByteArray) (l : List Smp) (o : Bool) : ∀ (ks : List Nat) (p : Nat), (pcs tag l o p ks).flatMap (fun x => x.ss) = ks.flatMap (parts 100 l)
  | [], _ => rfl
  | k :: ks, p => by simp only [pcs, List.flatMap_cons, pcs_flat tag l o ks]
theorem pcs_tag (tag : ByteArray) (l : List Smp) (o : Bool) : ∀ (ks : List Nat) (p : Nat), ∀ x ∈ pcs tag l o p ks, x.b.tag = tag
  | [], _, x, h => by cases h
  | k :: ks, p, x, h => by
    simp only [pcs, List.mem_cons] at h
    rcases h with rfl | h
    · rfl
    · exact pcs_tag tag l o ks _ x h
theorem nch_flat (l : List Smp) : (List.range (nch l)).flatMap (parts 100 l) = l := by
  rw [take_parts]
  exact List.take_of_length_le (by unfold nch; omega)
theorem late_norm {last : Int} : ∀ {l : List Smp}, risS l → lateL last l ++ normL last l = l
  | [], _ => rfl
  | x :: r, h => by
    have hp := List.pairwise_cons.1 h
    have ih := late_norm (last := last) (l := r) hp.2
    by_cases hx : last < x.t
    · have h1 : lateL last (x :: r) = [] := by
        unfold lateL
        refine List.filter_eq_nil_iff.2 (fun y hy => ?_)
        rcases List.mem_cons.1 hy with rfl | hy
        · simp; omega
        · have := hp.1 y hy
          simp; omega
      have h2 : normL last (x :: r) = x :: r := by
        unfold normL
        refine List.filter_eq_self.2 (fun y hy => ?_)
        rcases List.mem_cons.1 hy with rfl | hy
        · exact decide_eq_true hx
        · have := hp.1 y hy
          exact decide_eq_true (by omega)
      rw [h1, h2]; rfl
    · have h1 : lateL last (x :: r) = x :: lateL last r := by unfold lateL; rw [List.filter_cons, if_pos (by simpa using hx)]
      have h2 : normL last (x :: r) = normL last r := by unfold normL; rw [List.filter_cons, if_neg (by simpa using hx)]
      rw [h1, h2, List.cons_append, ih]
theorem newP_flat {file : List UInt8} {tag : ByteArray} {l : List Smp} (h : risS l) : (newP file tag l).flatMap (fun x => x.ss) = l := by
  unfold newP
  rw [List.flatMap_append, pcs_flat, pcs_flat, nch_flat, nch_flat]
  exact late_norm h
theorem flat_other {ps : List Pc} {tag t : ByteArray} {a b : Int} (ht : ∀ x ∈ ps, x.b.tag = tag) (hne : tag ≠ t) : ps.flatMap (flatQ t a b) = [] := by
  induction ps with
  | nil => rfl
  | cons x r ih =>
    rw [List.flatMap_cons, ih (fun y hy => ht y (by simp [hy]))]
    unfold flatQ
    rw [if_neg (by rw [ht x (by simp)]; exact hne)]
    rfl
def FGood (k : Nat) (f : List UInt8) : Prop := (par f).2.2 = 0 ∧ f.length ≤ 16000 * k ∧ ssL (par f).1 ≤ 205 * k
theorem FGood.nil : FGood 0 [] := ⟨rfl, by simp, by show ssL (par []).1 ≤ 0; exact Nat.le_of_eq rfl⟩
theorem FGood.up {k : Nat} {f : List UInt8} (h : FGood k f) : FGood (k + 1) f := ⟨h.1, by have := h.2.1; omega, by have := h.2.2; omega⟩
theorem appB_len {f : List UInt8} {tag : ByteArray} {l : List Smp} (hk : tag.size ≤ 40) (hs : ∀ s ∈ l, smlS s) (hl : l.length ≤ 205) : (appB f tag l).length ≤ f.length + 12000 := by
  have m1 : ∀ last, ∀ x ∈ lateL last l, smlS x := fun last x hx => hs x (List.mem_filter.1 hx).1
  have m2 : ∀ last, ∀ x ∈ normL last l, smlS x := fun last x hx => hs x (List.mem_filter.1 hx).1
  unfold appB
  generalize lastO (par f).1 tag = last
  have h1 := List.length_filter_le (fun x : Smp => decide (¬ last < x.t)) l
  have h2 := List.length_filter_le (fun x : Smp => decide (last < x.t)) l
  have k1 := chB_40 tag (lateL last l) true hk (m1 last) (List.range (nch (lateL last l)))
  have k2 := chB_40 tag (normL last l) false hk (m2 last) (List.range (nch (normL last l)))
  rw [List.length_range] at k1 k2
  have q1 : nch (lateL last l) ≤ 3 := by unfold nch lateL; omega
  have q2 : nch (normL last l) ≤ 3 := by unfold nch normL; omega
  rw [List.length_append, List.length_append]
  omega
theorem FGood.app {k : Nat} {f : List UInt8} {tag : ByteArray} {l : List Smp} (h : FGood k f) (hl : l.length ≤ 205) (he : (appRes f tag l).2 = 0) : FGood (k + 1) (appRes f tag l).1 := by
  obtain ⟨h1, h2, h3, h4, h5, h6⟩ := append_par he
  have hris := ((serP_iff l).1 h6).2.2
  refine ⟨by rw [h1], ?_, ?_⟩
  · rw [h4]
    have := appB_len (f := f) (tag := tag) (l := l) h5.2.1 (serF_sml h6) hl
    have := h.2.1
    omega
  · rw [h1]
    dsimp only
    rw [ssL_app]
    have e : ssL (newP f tag l) = l.length := by unfold ssL; rw [newP_flat hris]
    have := h.2.2
    omega
theorem FGood.few {k : Nat} {f : List UInt8} (h : FGood k f) (t : ByteArray) (a b : Int) : (qryF (par f).1 t a b).length ≤ 205 * k := by
  unfold qryF
  rw [serM_len]
  have h1 := puts_len ((par f).1.flatMap (flatQ t a b)) []
  have h2 := flatm_len (flatQ t a b) (fun x : Pc => x.ss) (fun x => flatQ_sub) (par f).1
  have h3 : (pfS ((par f).1.flatMap (flatQ t a b))).length ≤ ((par f).1.flatMap (flatQ t a b)).length := by simpa [pfS] using h1
  have h4 := h.2.2
  unfold ssL at h4
  omega
theorem fnd_ser {m : List Smp} (hm : (m.map (·.t)).Nodup) (t : Int) : fnd t (serM m) = fnd t m := by
  have hs : ((serM m).map (·.t)).Nodup := by
    rw [serM_t]
    exact (srtI_lt hm).imp (fun h => by omega)
  refine Option.ext fun x => ?_
  constructor
  · intro h
    have h1 := fnd_some h
    have h2 := serM_mem h1.1
    have h3 := (mem_fnd hm).1 h2
    rwa [h1.2] at h3
  · intro h
    have h1 := fnd_some h
    have h2 : x ∈ serM m := by
      unfold serM
      refine List.mem_filterMap.2 ⟨t, srtI_mem.2 (List.mem_map.2 ⟨x, h1.1, h1.2⟩), h⟩
    have h3 := (mem_fnd hs).1 h2
    rwa [h1.2] at h3
theorem fnd_filt {l : List Smp} {p : Int → Bool} (t : Int) (hp : p t = true) : fnd t (l.filter fun y => p y.t) = fnd t l := by
  induction l with
  | nil => rfl
  | cons y r ih =>
    rw [List.filter_cons]
    by_cases h : p y.t = true
    · rw [if_pos h, fnd_nx, fnd_nx, ih]
    · rw [if_neg h, fnd_nx, if_neg (fun e => h (by rw [← e]; exact hp)), ih]
end Go.Proofs.YtnodfnjmhcjnfaaGreatDoor
