/- What a query finds: the last one of each moment, put into a map or looked for from behind. No program in sight. -/
import Derived.Test.YtnodfnjmhcjnfaaGreatDoorHVFixQ
import Derived.Test.YtnodfnjmhcjnfaaGreatDoorHVFixM
namespace Go.Proofs.YtnodfnjmhcjnfaaGreatDoor
open Go Go.RowKit
set_option maxRecDepth 100000
set_option linter.all false
theorem fnd_app {t : Int} (a b : List Smp) : fnd t (a ++ b) = (fnd t a).or (fnd t b) := by
  unfold fnd
  rw [List.find?_append]
theorem puts_fnd (t : Int) : ∀ (l m : List Smp), fnd t (l.foldl (fun m x => putS x m) m) = (fnd t l.reverse).or (fnd t m)
  | [], m => by simp [fnd]
  | x :: r, m => by
    rw [List.foldl_cons, puts_fnd t r, fnd_put, List.reverse_cons, fnd_app]
    cases fnd t r.reverse with
    | some y => rfl
    | none =>
      simp only [Option.none_or]
      rw [fnd_nx]
      by_cases h : t = x.t
      · rw [if_pos h, if_pos h]; rfl
      · rw [if_neg h, if_neg h]; simp [fnd]
theorem pfS_fnd (t : Int) (l : List Smp) : fnd t (pfS l) = fnd t l.reverse := by
  have := puts_fnd t l []
  unfold pfS
  rw [this]
  cases fnd t l.reverse <;> rfl
theorem puts_nd : ∀ (l m : List Smp), (m.map (·.t)).Nodup → ((l.foldl (fun m x => putS x m) m).map (·.t)).Nodup
  | [], _, h => h
  | x :: r, m, h => puts_nd r _ (putS_nd h).1
theorem pfS_nd (l : List Smp) : ((pfS l).map (·.t)).Nodup := puts_nd l [] (by simp)
theorem mem_fnd {l : List Smp} (h : (l.map (·.t)).Nodup) {x : Smp} : x ∈ l ↔ fnd x.t l = some x := by
  induction l with
  | nil => simp [fnd]
  | cons y r ih =>
    rw [List.map_cons, List.nodup_cons] at h
    rw [fnd_nx, List.mem_cons, ih h.2]
    by_cases e : x.t = y.t
    · rw [if_pos e]
      constructor
      · rintro (rfl | h2)
        · rfl
        · exact absurd (List.mem_map.2 ⟨x, (fnd_some h2).1, e⟩) h.1
      · intro h2
        injection h2 with h2
        exact .inl h2.symm
    · rw [if_neg e]
      constructor
      · rintro (rfl | h2)
        · exact absurd rfl e
        · exact h2
      · exact .inr
theorem fnd_rev {t : Int} {l : List Smp} (h : (l.map (·.t)).Nodup) : fnd t l.reverse = fnd t l := by
  have h2 : (l.reverse.map (·.t)).Nodup := by rw [List.map_reverse]; exact List.pairwise_reverse.2 (h.imp Ne.symm)
  cases h3 : fnd t l with
  | some x =>
    obtain ⟨h4, rfl⟩ := fnd_some h3
    exact (mem_fnd h2).1 (List.mem_reverse.2 h4)
  | none =>
    cases h5 : fnd t l.reverse with
    | none => rfl
    | some x =>
      obtain ⟨h4, rfl⟩ := fnd_some h5
      have := (mem_fnd h).1 (List.mem_reverse.1 h4)
      rw [h3] at this
      cases this
theorem perm_fnd {a b : List Smp} (ha : (a.map (·.t)).Nodup) (hb : (b.map (·.t)).Nodup) (h : ∀ t, fnd t a = fnd t b) : a.Perm b := by
  have nd : ∀ {l : List Smp}, (l.map (·.t)).Nodup → l.Nodup := fun hl => (List.pairwise_map.1 hl).imp (fun h e => h (by rw [e]))
  exact (List.perm_ext_iff_of_nodup (nd ha) (nd hb)).2 (fun x => by rw [mem_fnd ha, mem_fnd hb, h])
theorem sorted_ser {l o m : List Smp} (hp : l.Perm o) (hs : l.Pairwise (fun x y => ¬ y.t < x.t)) (ho : (o.map (·.t)).Nodup) (hm : (m.map (·.t)).Nodup) (h : ∀ t, fnd t o = fnd t m) : l = serM m := by
  have h1 : ((serM m).map (·.t)).Pairwise (fun a b => a < b) := by rw [serM_t]; exact srtI_lt hm
  have h2 : ((serM m).map (·.t)).Nodup := h1.imp fun h e => by omega
  have h3 : o.Perm (serM m) := perm_fnd ho h2 (fun t => by rw [serM_fnd, h])
  have h4 := List.pairwise_map.1 h1
  refine List.Perm.eq_of_pairwise (le := fun x y : Smp => ¬ y.t < x.t) (fun x y hx hy h5 h6 => ?_) hs (h4.imp fun h => by omega) (hp.trans h3)
  have hx := (hp.trans h3).mem_iff.1 hx
  have e : x.t = y.t := by omega
  have e1 := (mem_fnd h2).1 hx
  have e2 := (mem_fnd h2).1 hy
  rw [e, e2] at e1
  injection e1 with e1
  exact e1.symm
end Go.Proofs.YtnodfnjmhcjnfaaGreatDoor
