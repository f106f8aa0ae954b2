/- Several texts in one: sample, and what follows. No condition. -/
import Derived.Test.YtnodfnjmhcjnfaaGreatDoorHVMapD
import Derived.Test.YtnodfnjmhcjnfaaGreatDoorHVArrB
import Derived.Shelf.Sort.Plain
import Derived.Test.YtnodfnjmhcjnfaaGreatDoorHVGA
import Derived.Test.YtnodfnjmhcjnfaaGreatDoorHVGF
import Derived.Test.YtnodfnjmhcjnfaaGreatDoorHVStr
import Derived.Test.YtnodfnjmhcjnfaaGreatDoorHVGK
/- sample.fixed, sample.series: the samples of a map, after fixes. No condition. -/
namespace Go.Proofs.YtnodfnjmhcjnfaaGreatDoor
open Go Go.RowKit
set_option maxRecDepth 100000
set_option linter.all false
set_option maxHeartbeats 1000000
variable {H : Hp} {K : AV → Hp → Prop}
attribute [simp] md_okN
theorem md_nil : mpO [] = mdO [] 0 [] := rfl
theorem mdOk_nil : MdOk [] 0 [] := ⟨rfl, List.nodup_nil, by simp, List.nodup_nil⟩
def serM (m : List Smp) : List Smp := (srtI (m.map (·.t))).filterMap fun t => m.find? fun y => decide (t = y.t)
theorem serM_at {m : List Smp} : ∀ (ks : List Int), (∀ t ∈ ks, t ∈ m.map (·.t)) → (ks.filterMap fun t => m.find? fun y => decide (t = y.t)).length = ks.length ∧ ∀ (k : Nat) (t : Int), ks[k]? = some t → ∃ x, m.find? (fun y => decide (t = y.t)) = some x ∧ (ks.filterMap fun t => m.find? fun y => decide (t = y.t))[k]? = some x
  | [], _ => ⟨rfl, by simp⟩
  | t :: r, h => by
    obtain ⟨h1, h2⟩ := serM_at r (fun y hy => h y (by simp [hy]))
    obtain ⟨y, hy, e⟩ := List.mem_map.1 (h t (by simp))
    obtain ⟨x, hx⟩ : ∃ x, m.find? (fun y => decide (t = y.t)) = some x := by
      cases hf : m.find? (fun y => decide (t = y.t)) with
      | some x => exact ⟨x, rfl⟩
      | none => exact absurd (List.find?_eq_none.1 hf y hy) (by simp [e])
    rw [List.filterMap_cons, hx]
    refine ⟨by simp [h1], fun k t' hk => ?_⟩
    cases k with
    | zero =>
      simp only [List.getElem?_cons_zero, Option.some.injEq] at hk
      subst hk
      exact ⟨x, hx, rfl⟩
    | succ k => exact h2 k t' (by simpa using hk)
end Go.Proofs.YtnodfnjmhcjnfaaGreatDoor
/- sample.Fixed: a series after its fixes. Condition: names are not longer than a machine holds, lists are not long. -/
namespace Go.Proofs.YtnodfnjmhcjnfaaGreatDoor
open Go Go.RowKit
set_option maxRecDepth 100000
set_option linter.all false
set_option maxHeartbeats 1000000
variable {H : Hp} {K : AV → Hp → Prop}
theorem putS_mem {x y : Smp} {m : List Smp} (h : y ∈ putS x m) : y = x ∨ y ∈ m := by
  unfold putS upsert at h
  split at h
  · rcases List.mem_or_eq_of_mem_set h with h | h
    · exact .inr h
    · exact .inl h
  · rcases List.mem_append.1 h with h | h
    · exact .inr h
    · exact .inl (by simpa using h)
theorem putS_len (x : Smp) (m : List Smp) : (putS x m).length ≤ m.length + 1 := by
  unfold putS upsert
  split <;> simp
theorem puts_len : ∀ (l m : List Smp), (l.foldl (fun m x => putS x m) m).length ≤ m.length + l.length
  | [], m => by simp
  | x :: r, m => by
    have h1 := puts_len r (putS x m)
    have h2 := putS_len x m
    rw [List.foldl_cons, List.length_cons]
    omega
theorem serM_len {m : List Smp} : (serM m).length = m.length := by
  have h1 := (serM_at (m := m) (srtI (m.map (·.t))) (fun t ht => srtI_mem.1 ht)).1
  rw [srtI_len, List.length_map] at h1
  exact h1
end Go.Proofs.YtnodfnjmhcjnfaaGreatDoor
/- sample.Differ: the moments at which two series differ. Condition: the lists are not long. -/
namespace Go.Proofs.YtnodfnjmhcjnfaaGreatDoor
open Go Go.RowKit
set_option maxRecDepth 100000
set_option linter.all false
set_option maxHeartbeats 1000000
variable {H : Hp} {K : AV → Hp → Prop}
def pfS (l : List Smp) : List Smp := l.foldl (fun m x => putS x m) []
end Go.Proofs.YtnodfnjmhcjnfaaGreatDoor
