/- Several texts in one: What a moment's sample is after fixes: the program's map and the document's walk, in plain words, and what follows. No condition. -/
import Derived.Test.YtnodfnjmhcjnfaaGreatDoorHVMapD
/- What a moment's sample is after fixes: the program's map and the document's walk, in plain words. No condition. -/
namespace Go.Proofs.YtnodfnjmhcjnfaaGreatDoor
open Go Go.RowKit
set_option maxRecDepth 100000
set_option linter.all false
def fnd (t : Int) (m : List Smp) : Option Smp := m.find? fun y => decide (t = y.t)
theorem putS_cons (x y : Smp) (r : List Smp) : putS x (y :: r) = if x.t = y.t then x :: r else y :: putS x r := by
  unfold putS upsert
  rw [List.findIdx?_cons]
  by_cases h : x.t = y.t
  · simp [h]
  · simp only [h, decide_false, Bool.false_eq_true, if_false]
    cases hf : r.findIdx? (fun y => decide (x.t = y.t)) <;> simp
theorem fnd_put (t : Int) (x : Smp) : ∀ m : List Smp, fnd t (putS x m) = if t = x.t then some x else fnd t m
  | [] => by
    unfold fnd putS upsert
    by_cases h : t = x.t <;> simp [h]
  | y :: r => by
    have ih := fnd_put t x r
    rw [putS_cons]
    unfold fnd at ih ⊢
    by_cases h : x.t = y.t
    · rw [if_pos h, List.find?_cons, List.find?_cons]
      by_cases h2 : t = x.t
      · simp [h2]
      · have h3 : ¬ t = y.t := fun e => h2 (e.trans h.symm)
        simp [h2, h3]
    · rw [if_neg h, List.find?_cons, List.find?_cons, ih]
      by_cases h2 : t = y.t
      · have h3 : ¬ t = x.t := fun e => h (e.symm.trans h2)
        simp [h2, Ne.symm h]
      · simp [h2]
theorem fnd_none {t : Int} {m : List Smp} (h : t ∉ m.map (·.t)) : fnd t m = none := by
  unfold fnd
  rw [List.find?_eq_none]
  intro y hy e
  exact h (List.mem_map.2 ⟨y, hy, (of_decide_eq_true e).symm⟩)
theorem fnd_some {t : Int} {m : List Smp} {x : Smp} (h : fnd t m = some x) : x ∈ m ∧ x.t = t := ⟨List.mem_of_find?_eq_some h, (of_decide_eq_true (List.find?_some (p := fun y : Smp => decide (t = y.t)) h)).symm⟩
theorem putS_nd {x : Smp} : ∀ {m : List Smp}, (m.map (·.t)).Nodup → ((putS x m).map (·.t)).Nodup ∧ ∀ t, t ∈ (putS x m).map (·.t) → t = x.t ∨ t ∈ m.map (·.t)
  | [], _ => by
    unfold putS upsert
    simp
  | y :: r, h => by
    rw [List.map_cons, List.nodup_cons] at h
    obtain ⟨h1, h2⟩ := putS_nd (x := x) h.2
    rw [putS_cons]
    by_cases e : x.t = y.t
    · rw [if_pos e]
      refine ⟨by rw [List.map_cons, List.nodup_cons, e]; exact h, fun t ht => ?_⟩
      rw [List.map_cons] at ht
      rcases List.mem_cons.1 ht with h3 | h3
      · exact .inl h3
      · exact .inr (by rw [List.map_cons]; exact List.mem_cons_of_mem _ h3)
    · rw [if_neg e]
      refine ⟨?_, fun t ht => ?_⟩
      · rw [List.map_cons, List.nodup_cons]
        refine ⟨fun hy => ?_, h1⟩
        rcases h2 _ hy with h3 | h3
        · exact e h3.symm
        · exact h.1 h3
      · rw [List.map_cons] at ht
        rcases List.mem_cons.1 ht with h3 | h3
        · exact .inr (by rw [List.map_cons, h3]; exact List.mem_cons_self)
        · rcases h2 t h3 with h4 | h4
          · exact .inl h4
          · exact .inr (by rw [List.map_cons]; exact List.mem_cons_of_mem _ h4)
theorem srtI_leF (l : List Int) : (srtI l).Pairwise (fun a b => a ≤ b) := by
  unfold srtI
  have h := List.pairwise_mergeSort (le := fun x y : Int => decide (x ≤ y)) (fun a b c h1 h2 => by simp only [decide_eq_true_eq] at *; omega) (fun a b => by simp only [Bool.or_eq_true, decide_eq_true_eq]; omega) l
  exact h.imp (fun h => of_decide_eq_true h)
theorem srtI_lt {l : List Int} (h : l.Nodup) : (srtI l).Pairwise (fun a b => a < b) := by
  have h1 := srtI_leF l
  have h2 : (srtI l).Nodup := by unfold srtI; exact (List.mergeSort_perm l _).nodup_iff.2 h
  exact (h1.and h2).imp (fun h => by obtain ⟨h1, h2⟩ := h; omega)
end Go.Proofs.YtnodfnjmhcjnfaaGreatDoor
/- The moments at which a corrected series differs: the program's answer is the document's. No program in sight. -/
namespace Go.Proofs.YtnodfnjmhcjnfaaGreatDoor
open Go Go.RowKit
set_option maxRecDepth 100000
set_option linter.all false
theorem fnd_nx {t : Int} {x : Smp} {r : List Smp} : fnd t (x :: r) = if t = x.t then some x else fnd t r := by
  unfold fnd
  rw [List.find?_cons]
  by_cases h : t = x.t <;> simp [h]
theorem find_keys {t : Int} {m : List Smp} (h : t ∈ m.map (·.t)) : ∃ x, fnd t m = some x := by
  cases hf : fnd t m with
  | some x => exact ⟨x, rfl⟩
  | none =>
    obtain ⟨y, hy, e⟩ := List.mem_map.1 h
    exact absurd (List.find?_eq_none.1 hf y hy) (by simp [e])
theorem serM_fnd {m : List Smp} (t : Int) : fnd t (serM m) = fnd t m := by
  have key : ∀ ks : List Int, (∀ s ∈ ks, s ∈ m.map (·.t)) → fnd t (ks.filterMap fun s => fnd s m) = if t ∈ ks then fnd t m else none := by
    intro ks
    induction ks with
    | nil => intro _; rfl
    | cons s r ih =>
      intro hk
      obtain ⟨x, hx⟩ := find_keys (hk s (by simp))
      rw [List.filterMap_cons, hx]
      dsimp only
      rw [fnd_nx, ih fun y hy => hk y (by simp [hy]), (fnd_some hx).2]
      by_cases h : t = s
      · rw [if_pos h, h, hx]; simp
      · rw [if_neg h]; simp [h]
  have := key (srtI (m.map (·.t))) (fun s hs => srtI_mem.1 hs)
  have e : serM m = (srtI (m.map (·.t))).filterMap fun s => fnd s m := rfl
  rw [e, this]
  by_cases h : t ∈ m.map (·.t)
  · rw [if_pos (srtI_mem.2 h)]
  · rw [if_neg (fun hh => h (srtI_mem.1 hh)), fnd_none h]
theorem serM_t {m : List Smp} : (serM m).map (·.t) = srtI (m.map (·.t)) := by
  have key : ∀ ks : List Int, (∀ s ∈ ks, s ∈ m.map (·.t)) → (ks.filterMap fun s => fnd s m).map (·.t) = ks := by
    intro ks
    induction ks with
    | nil => intro _; rfl
    | cons s r ih =>
      intro hk
      obtain ⟨x, hx⟩ := find_keys (hk s (by simp))
      rw [List.filterMap_cons, hx]
      dsimp only
      rw [List.map_cons, (fnd_some hx).2, ih fun y hy => hk y (by simp [hy])]
  exact key _ (fun s hs => srtI_mem.1 hs)
end Go.Proofs.YtnodfnjmhcjnfaaGreatDoor
/- What a query finds: the last one of each moment, put into a map or looked for from behind. No program in sight. -/
namespace Go.Proofs.YtnodfnjmhcjnfaaGreatDoor
open Go Go.RowKit
set_option maxRecDepth 100000
set_option linter.all false
theorem fnd_app {t : Int} (a b : List Smp) : fnd t (a ++ b) = (fnd t a).or (fnd t b) := by
  unfold fnd
  rw [List.find?_append]
theorem puts_fnd (t : Int) : ∀ (l m : List Smp), fnd t (l.foldl (fun m x => putS x m) m) = (fnd t l.reverse).or (fnd t m)
  | [], m => by simp [fnd]
  | x :: r, m => by
    rw [List.foldl_cons, puts_fnd t r, fnd_put, List.reverse_cons, fnd_app]
    cases fnd t r.reverse with
    | some y => rfl
    | none =>
      simp only [Option.none_or]
      rw [fnd_nx]
      by_cases h : t = x.t
      · rw [if_pos h, if_pos h]; rfl
      · rw [if_neg h, if_neg h]; simp [fnd]
theorem pfS_fnd (t : Int) (l : List Smp) : fnd t (pfS l) = fnd t l.reverse := by
  have := puts_fnd t l []
  unfold pfS
  rw [this]
  cases fnd t l.reverse <;> rfl
theorem puts_nd : ∀ (l m : List Smp), (m.map (·.t)).Nodup → ((l.foldl (fun m x => putS x m) m).map (·.t)).Nodup
  | [], _, h => h
  | x :: r, m, h => puts_nd r _ (putS_nd h).1
theorem pfS_nd (l : List Smp) : ((pfS l).map (·.t)).Nodup := puts_nd l [] (by simp)
theorem mem_fnd {l : List Smp} (h : (l.map (·.t)).Nodup) {x : Smp} : x ∈ l ↔ fnd x.t l = some x := by
  induction l with
  | nil => simp [fnd]
  | cons y r ih =>
    rw [List.map_cons, List.nodup_cons] at h
    rw [fnd_nx, List.mem_cons, ih h.2]
    by_cases e : x.t = y.t
    · rw [if_pos e]
      constructor
      · rintro (rfl | h2)
        · rfl
        · exact absurd (List.mem_map.2 ⟨x, (fnd_some h2).1, e⟩) h.1
      · intro h2
        injection h2 with h2
        exact .inl h2.symm
    · rw [if_neg e]
      constructor
      · rintro (rfl | h2)
        · exact absurd rfl e
        · exact h2
      · exact .inr
theorem fnd_rev {t : Int} {l : List Smp} (h : (l.map (·.t)).Nodup) : fnd t l.reverse = fnd t l := by
  have h2 : (l.reverse.map (·.t)).Nodup := by rw [List.map_reverse]; exact List.pairwise_reverse.2 (h.imp Ne.symm)
  cases h3 : fnd t l with
  | some x =>
    obtain ⟨h4, rfl⟩ := fnd_some h3
    exact (mem_fnd h2).1 (List.mem_reverse.2 h4)
  | none =>
    cases h5 : fnd t l.reverse with
    | none => rfl
    | some x =>
      obtain ⟨h4, rfl⟩ := fnd_some h5
      have := (mem_fnd h).1 (List.mem_reverse.1 h4)
      rw [h3] at this
      cases this
theorem perm_fnd {a b : List Smp} (ha : (a.map (·.t)).Nodup) (hb : (b.map (·.t)).Nodup) (h : ∀ t, fnd t a = fnd t b) : a.Perm b := by
  have nd : ∀ {l : List Smp}, (l.map (·.t)).Nodup → l.Nodup := fun hl => (List.pairwise_map.1 hl).imp (fun h e => h (by rw [e]))
  exact (List.perm_ext_iff_of_nodup (nd ha) (nd hb)).2 (fun x => by rw [mem_fnd ha, mem_fnd hb, h])
theorem sorted_ser {l o m : List Smp} (hp : l.Perm o) (hs : l.Pairwise (fun x y => ¬ y.t < x.t)) (ho : (o.map (·.t)).Nodup) (hm : (m.map (·.t)).Nodup) (h : ∀ t, fnd t o = fnd t m) : l = serM m := by
  have h1 : ((serM m).map (·.t)).Pairwise (fun a b => a < b) := by rw [serM_t]; exact srtI_lt hm
  have h2 : ((serM m).map (·.t)).Nodup := h1.imp fun h e => by omega
  have h3 : o.Perm (serM m) := perm_fnd ho h2 (fun t => by rw [serM_fnd, h])
  have h4 := List.pairwise_map.1 h1
  refine List.Perm.eq_of_pairwise (le := fun x y : Smp => ¬ y.t < x.t) (fun x y hx hy h5 h6 => ?_) hs (h4.imp fun h => by omega) (hp.trans h3)
  have hx := (hp.trans h3).mem_iff.1 hx
  have e : x.t = y.t := by omega
  have e1 := (mem_fnd h2).1 hx
  have e2 := (mem_fnd h2).1 hy
  rw [e, e2] at e1
  injection e1 with e1
  exact e1.symm
end Go.Proofs.YtnodfnjmhcjnfaaGreatDoor
