/- The moments at which a corrected series differs: the program's answer is the document's. No program in sight. -/
import Derived.Test.YtgcjenfdndhhpaaGreatDoorHVFixQ
namespace Go.Proofs.YtgcjenfdndhhpaaGreatDoor
open Go Go.RowKit
set_option maxRecDepth 100000
set_option linter.all false
theorem lk_put (t : Int) (p : Int × Bool) : ∀ s : List (Int × Bool), lkB (putBd p s) t = if t = p.1 then p.2 else lkB s t
  | [] => by
    unfold lkB putBd upsert
    by_cases h : t = p.1 <;> simp [h]
  | y :: r => by
    have ih := lk_put t p r
    have e : putBd p (y :: r) = if p.1 = y.1 then p :: r else y :: putBd p r := by
      unfold putBd upsert
      rw [List.findIdx?_cons]
      by_cases h : p.1 = y.1
      · simp [h]
      · simp only [h, decide_false, Bool.false_eq_true, if_false]
        cases hf : r.findIdx? (fun y => decide (p.1 = y.1)) <;> simp
    rw [e]
    unfold lkB at ih ⊢
    by_cases h : p.1 = y.1
    · rw [if_pos h, List.find?_cons, List.find?_cons]
      by_cases h2 : t = p.1
      · simp [h2]
      · have h3 : ¬ t = y.1 := fun e => h2 (e.trans h.symm)
        simp [h2, h3]
    · rw [if_neg h, List.find?_cons, List.find?_cons]
      by_cases h2 : t = y.1
      · have h3 : ¬ t = p.1 := fun e => h (e.symm.trans h2)
        simp [h2, Ne.symm h]
      · simp only [h2, decide_false]
        exact ih
theorem put_keys (t : Int) (p : Int × Bool) (s : List (Int × Bool)) : t ∈ (putBd p s).map (·.1) ↔ t = p.1 ∨ t ∈ s.map (·.1) := by
  induction s with
  | nil => simp [putBd, upsert]
  | cons y r ih =>
    have e : putBd p (y :: r) = if p.1 = y.1 then p :: r else y :: putBd p r := by
      unfold putBd upsert
      rw [List.findIdx?_cons]
      by_cases h : p.1 = y.1
      · simp [h]
      · simp only [h, decide_false, Bool.false_eq_true, if_false]
        cases hf : r.findIdx? (fun y => decide (p.1 = y.1)) <;> simp
    rw [e]
    by_cases h : p.1 = y.1
    · rw [if_pos h]
      simp only [List.map_cons, List.mem_cons]
      constructor
      · rintro (h1 | h1)
        · exact .inl h1
        · exact .inr (.inr h1)
      · rintro (h1 | h1 | h1)
        · exact .inl h1
        · exact .inl (h1.trans h.symm)
        · exact .inr h1
    · rw [if_neg h]
      simp only [List.map_cons, List.mem_cons, ih]
      constructor
      · rintro (h1 | h1 | h1)
        · exact .inr (.inl h1)
        · exact .inl h1
        · exact .inr (.inr h1)
      · rintro (h1 | h1 | h1)
        · exact .inr (.inl h1)
        · exact .inl h1
        · exact .inr (.inr h1)
theorem qb_keys (m : List Smp) (t : Int) : ∀ (l : List Smp) (s : List (Int × Bool)), t ∈ (qbS m s l).map (·.1) ↔ t ∈ s.map (·.1) ∨ t ∈ l.map (·.t)
  | [], s => by simp [qbS]
  | x :: r, s => by
    have ih := qb_keys m t r (putBd (x.t, dfB m x) s)
    have e : qbS m s (x :: r) = qbS m (putBd (x.t, dfB m x) s) r := rfl
    rw [e, ih, put_keys]
    simp only [List.map_cons, List.mem_cons]
    constructor
    · rintro ((h | h) | h)
      · exact .inr (.inl h)
      · exact .inl h
      · exact .inr (.inr h)
    · rintro (h | h | h)
      · exact .inl (.inr h)
      · exact .inl (.inl h)
      · exact .inr h
theorem pb_keys (t : Int) : ∀ (l : List Smp) (s : List (Int × Bool)), t ∈ (l.foldl (fun m x => putBd (x.t, true) m) s).map (·.1) ↔ t ∈ s.map (·.1) ∨ t ∈ l.map (·.t)
  | [], s => by simp
  | x :: r, s => by
    have ih := pb_keys t r (putBd (x.t, true) s)
    rw [List.foldl_cons, ih, put_keys]
    simp only [List.map_cons, List.mem_cons]
    constructor
    · rintro ((h | h) | h)
      · exact .inr (.inl h)
      · exact .inl h
      · exact .inr (.inr h)
    · rintro (h | h | h)
      · exact .inl (.inr h)
      · exact .inl (.inl h)
      · exact .inr h
theorem pb_lk (t : Int) : ∀ (l : List Smp) (s : List (Int × Bool)), lkB (l.foldl (fun m x => putBd (x.t, true) m) s) t = (lkB s t || decide (t ∈ l.map (·.t)))
  | [], s => by simp
  | x :: r, s => by
    rw [List.foldl_cons, pb_lk t r, lk_put]
    by_cases h : t = x.t
    · simp [h]
    · rw [if_neg h]
      simp [h]
theorem fnd_nx {t : Int} {x : Smp} {r : List Smp} : fnd t (x :: r) = if t = x.t then some x else fnd t r := by
  unfold fnd
  rw [List.find?_cons]
  by_cases h : t = x.t <;> simp [h]
theorem qb_lk (m : List Smp) (t : Int) : ∀ (l : List Smp) (s : List (Int × Bool)), (l.map (·.t)).Nodup → lkB (qbS m s l) t = match fnd t l with | some x => dfB m x | none => lkB s t
  | [], s, _ => rfl
  | x :: r, s, hn => by
    rw [List.map_cons, List.nodup_cons] at hn
    have e : qbS m s (x :: r) = qbS m (putBd (x.t, dfB m x) s) r := rfl
    rw [e, qb_lk m t r _ hn.2, lk_put, fnd_nx]
    by_cases h : t = x.t
    · rw [if_pos h, if_pos h, h, fnd_none hn.1]
    · rw [if_neg h, if_neg h]
theorem find_keys {t : Int} {m : List Smp} (h : t ∈ m.map (·.t)) : ∃ x, fnd t m = some x := by
  cases hf : fnd t m with
  | some x => exact ⟨x, rfl⟩
  | none =>
    obtain ⟨y, hy, e⟩ := List.mem_map.1 h
    exact absurd (List.find?_eq_none.1 hf y hy) (by simp [e])
/-- what the series of a map holds at a moment -/
theorem serM_fnd {m : List Smp} (t : Int) : fnd t (serM m) = fnd t m := by
  have key : ∀ ks : List Int, (∀ s ∈ ks, s ∈ m.map (·.t)) → fnd t (ks.filterMap fun s => fnd s m) = if t ∈ ks then fnd t m else none := by
    intro ks
    induction ks with
    | nil => intro _; rfl
    | cons s r ih =>
      intro hk
      obtain ⟨x, hx⟩ := find_keys (hk s (by simp))
      rw [List.filterMap_cons, hx]
      dsimp only
      rw [fnd_nx, ih fun y hy => hk y (by simp [hy]), (fnd_some hx).2]
      by_cases h : t = s
      · rw [if_pos h, h, hx]; simp
      · rw [if_neg h]; simp [h]
  have := key (srtI (m.map (·.t))) (fun s hs => srtI_mem.1 hs)
  have e : serM m = (srtI (m.map (·.t))).filterMap fun s => fnd s m := rfl
  rw [e, this]
  by_cases h : t ∈ m.map (·.t)
  · rw [if_pos (srtI_mem.2 h)]
  · rw [if_neg (fun hh => h (srtI_mem.1 hh)), fnd_none h]
theorem serM_t {m : List Smp} : (serM m).map (·.t) = srtI (m.map (·.t)) := by
  have key : ∀ ks : List Int, (∀ s ∈ ks, s ∈ m.map (·.t)) → (ks.filterMap fun s => fnd s m).map (·.t) = ks := by
    intro ks
    induction ks with
    | nil => intro _; rfl
    | cons s r ih =>
      intro hk
      obtain ⟨x, hx⟩ := find_keys (hk s (by simp))
      rw [List.filterMap_cons, hx]
      dsimp only
      rw [List.map_cons, (fnd_some hx).2, ih fun y hy => hk y (by simp [hy])]
  exact key _ (fun s hs => srtI_mem.1 hs)
theorem filt_eqB {p q : Int → Bool} {A B : List Int} (hA : A.Pairwise (fun a b => a < b)) (hB : B.Pairwise (fun a b => a < b)) (hs : ∀ t ∈ A, t ∈ B) (hn : ∀ t ∈ B, t ∉ A → q t = false) (he : ∀ t ∈ A, p t = q t) : A.filter p = B.filter q := by
  have h1 : A.filter p = A.filter q := List.filter_congr he
  rw [h1]
  have h2 : (A.filter q).Pairwise (fun a b => a < b) := hA.sublist List.filter_sublist
  have h3 : (B.filter q).Pairwise (fun a b => a < b) := hB.sublist List.filter_sublist
  refine List.Perm.eq_of_pairwise (le := fun a b : Int => a < b) (fun a b _ _ h h' => by omega) h2 h3 ?_
  refine (List.perm_ext_iff_of_nodup (h2.imp fun h e => by omega) (h3.imp fun h e => by omega)).2 (fun t => ?_)
  rw [List.mem_filter, List.mem_filter]
  constructor
  · exact fun h => ⟨hs t h.1, h.2⟩
  · intro h
    by_cases ha : t ∈ A
    · exact ⟨ha, h.2⟩
    · rw [hn t h.1 ha] at h
      cases h.2
theorem differ_is (A B : List Smp) (ha : (A.map (·.t)).Nodup) (hb : (B.map (·.t)).Nodup) (t : Int) : lkB (qbS (pfS A) (pbS A) B) t = decide (fnd t A ≠ fnd t B) := by
  have e1 : pfS A = A := by
    unfold pfS
    rw [puts_id A [] (by simpa using ha), List.nil_append]
  rw [e1, qb_lk _ _ _ _ hb]
  cases hB : fnd t B with
  | none =>
    dsimp only
    unfold pbS
    rw [pb_lk]
    by_cases h : t ∈ A.map (·.t)
    · obtain ⟨x, hx⟩ := find_keys h
      rw [hx]
      simp [h]
    · rw [fnd_none h]
      simp [lkB, h]
  | some x =>
    dsimp only
    have e2 : (A.find? fun y => decide (x.t = y.t)) = fnd t A := by rw [← (fnd_some hB).2]; rfl
    unfold dfB
    rw [e2]
    cases fnd t A with
    | none => simp
    | some y => simp [eq_comm]
theorem chB_is {l : List Smp} {fs : List Fix} {a b t : Int} (hn : (l.map (·.t)).Nodup) (h1 : serF l = 0) (h2 : fxF fs = 0) : chB l fs a b t = decide (fnd t (fxM l (fxUp fs a)) ≠ fnd t (fxM l (fxUp fs b))) := by
  rw [← fxAt_rel hn h1 h2, ← fxAt_rel hn h1 h2]
  unfold chB relF
  obtain ⟨x, u⟩ := fxAt l fs t a
  obtain ⟨y, v⟩ := fxAt l fs t b
  cases u <;> cases v <;> simp
theorem fxM_nd {l : List Smp} {fs : List Fix} (hn : (l.map (·.t)).Nodup) : ((fxM l fs).map (·.t)).Nodup := by
  unfold fxM
  exact apAll_nd _ _ (by rw [puts_id l [] (by simpa using hn), List.nil_append]; exact hn)
theorem fxM_moms {l : List Smp} {fs : List Fix} {a : Int} {t : Int} (h : t ∈ (fxM l (fxUp fs a)).map (·.t)) : t ∈ momsF l fs := by
  unfold momsF
  rw [cplF_mem, srtI_mem]
  obtain ⟨x, hx, rfl⟩ := List.mem_map.1 h
  refine fxM_at (P := fun t => t ∈ l.map (·.t) ++ setsF fs) (fun x hx => List.mem_append_left _ (List.mem_map.2 ⟨x, hx, rfl⟩)) (fun f hf k => ?_) x hx
  refine List.mem_append_right _ ?_
  unfold setsF
  exact List.mem_map.2 ⟨f, List.mem_filter.2 ⟨(fxUp_sub fs a).subset hf, by simpa using k⟩, rfl⟩
/-- the program's changes are the document's -/
theorem changes_same {l : List Smp} {fs : List Fix} {a b : Int} (hn : (l.map (·.t)).Nodup) (h1 : serF l = 0) (h2 : fxF fs = 0) : dfF (serM (fxM l (fxUp fs a))) (serM (fxM l (fxUp fs b))) = (momsF l fs).filter (chB l fs a b) := by
  have na := fxM_nd (fs := fxUp fs a) hn
  have nb := fxM_nd (fs := fxUp fs b) hn
  have sa : ((serM (fxM l (fxUp fs a))).map (·.t)).Nodup := by rw [serM_t]; exact (srtI_lt na).imp fun h e => by omega
  have sb : ((serM (fxM l (fxUp fs b))).map (·.t)).Nodup := by rw [serM_t]; exact (srtI_lt nb).imp fun h e => by omega
  have hp : ∀ t, lkB (qbS (pfS (serM (fxM l (fxUp fs a)))) (pbS (serM (fxM l (fxUp fs a)))) (serM (fxM l (fxUp fs b)))) t = chB l fs a b t := by
    intro t
    rw [differ_is _ _ sa sb, serM_fnd, serM_fnd, chB_is hn h1 h2]
  have hkey : ∀ t, t ∈ srtI ((qbS (pfS (serM (fxM l (fxUp fs a)))) (pbS (serM (fxM l (fxUp fs a)))) (serM (fxM l (fxUp fs b)))).map (·.1)) ↔ t ∈ (fxM l (fxUp fs a)).map (·.t) ∨ t ∈ (fxM l (fxUp fs b)).map (·.t) := by
    intro t
    rw [srtI_mem, qb_keys]
    unfold pbS
    rw [pb_keys, serM_t, serM_t, srtI_mem, srtI_mem]
    simp
  unfold dfF
  refine filt_eqB (srtI_lt (qbS_ok _ _ _ (pbS_ok _ _ (by simp)))) ?_ (fun t ht => ?_) (fun t ht hno => ?_) (fun t _ => hp t)
  · unfold momsF
    exact (cplF_lt (r := fun a b : Int => a ≤ b) (fun a b h1 h2 => by omega) (srtI_leF _)).imp (fun h => by obtain ⟨h1, h2⟩ := h; omega)
  · rcases (hkey t).1 ht with h | h
    · exact fxM_moms h
    · exact fxM_moms h
  · rw [chB_is hn h1 h2, fnd_none (fun h => hno ((hkey t).2 (.inl h))), fnd_none (fun h => hno ((hkey t).2 (.inr h)))]
    simp
end Go.Proofs.YtgcjenfdndhhpaaGreatDoor
