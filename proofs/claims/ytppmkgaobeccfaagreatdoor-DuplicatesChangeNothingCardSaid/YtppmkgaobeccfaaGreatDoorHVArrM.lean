/- The nodes of arrivals: as many whichever way they are counted. No program in sight. -/
import Derived.Test.YtppmkgaobeccfaaGreatDoorHVArrE
namespace Go.Proofs.YtppmkgaobeccfaaGreatDoor
open Go Go.RowKit
set_option maxRecDepth 100000
set_option linter.all false
set_option maxHeartbeats 1000000
theorem cplG_mem {α : Type} [DecidableEq α] {x : α} : ∀ {t : List α} {p : α}, x ∈ p :: cplG p t ↔ x ∈ p :: t
  | [], p => by simp [cplG]
  | y :: t, p => by
    have ih := cplG_mem (x := x) (t := t) (p := y)
    unfold cplG
    by_cases h : y = p
    · subst h
      simp only [if_true, List.nil_append]
      rw [ih]
      simp
    · rw [if_neg h, List.singleton_append, List.mem_cons, ih, List.mem_cons (a := x) (b := p)]
theorem cplF_mem {α : Type} [DecidableEq α] {x : α} {l : List α} : x ∈ cplF l ↔ x ∈ l := by
  cases l with
  | nil => exact Iff.rfl
  | cons p t => exact cplG_mem
theorem cplG_lt {α : Type} [DecidableEq α] {r : α → α → Prop} (ha : ∀ a b, r a b → r b a → a = b) : ∀ {t : List α} {p : α}, (p :: t).Pairwise r → (p :: cplG p t).Pairwise (fun a b => r a b ∧ a ≠ b)
  | [], p, _ => by simp [cplG]
  | y :: t, p, h => by
    have h1 := List.pairwise_cons.1 h
    have ih := cplG_lt ha h1.2
    unfold cplG
    by_cases hy : y = p
    · subst hy
      simpa using ih
    · rw [if_neg hy, List.singleton_append]
      refine List.pairwise_cons.2 ⟨fun z hz => ?_, ih⟩
      have hz := cplG_mem.1 hz
      refine ⟨h1.1 z hz, fun e => ?_⟩
      subst e
      rcases List.mem_cons.1 hz with e | e
      · exact hy e.symm
      · exact hy (ha _ _ ((List.pairwise_cons.1 h1.2).1 _ e) (h1.1 y (List.mem_cons_self)))
theorem cplF_lt {α : Type} [DecidableEq α] {r : α → α → Prop} (ha : ∀ a b, r a b → r b a → a = b) {l : List α} (h : l.Pairwise r) : (cplF l).Pairwise (fun a b => r a b ∧ a ≠ b) := by
  cases l with
  | nil => exact List.Pairwise.nil
  | cons p t => exact cplG_lt ha h
def leBy (a b : ByteArray) : Prop := toL a ≤ toL b
theorem leBy_anti (a b : ByteArray) (h1 : leBy a b) (h2 : leBy b a) : a = b := by
  have := List.le_antisymm h1 h2
  rw [← ofL_toL a, this, ofL_toL]
theorem srtS_sorted (l : List ByteArray) : (srtS l).Pairwise leBy := by
  have h := List.pairwise_mergeSort (le := fun x y : List UInt8 => decide (x ≤ y)) (by intro a b c h1 h2; simp at h1 h2 ⊢; exact List.le_trans h1 h2) (by intro a b; simp; exact List.le_total a b) (l.map toL)
  rw [← srtS_toL, List.pairwise_map] at h
  exact h.imp (fun h => by simpa [leBy] using h)
theorem srtS_mem {l : List ByteArray} {x : ByteArray} : x ∈ srtS l ↔ x ∈ l := by
  have h : toL x ∈ (srtS l).map toL ↔ toL x ∈ l.map toL := by rw [srtS_toL]; exact (List.mergeSort_perm _ _).mem_iff
  have hi : ∀ a b : ByteArray, toL a = toL b → a = b := fun a b h => by rw [← ofL_toL a, h, ofL_toL]
  have e : ∀ m : List ByteArray, toL x ∈ m.map toL ↔ x ∈ m := fun m => ⟨fun h => by obtain ⟨y, hy, e⟩ := List.mem_map.1 h; rw [← hi _ _ e]; exact hy, fun h => List.mem_map.2 ⟨x, h, rfl⟩⟩
  rw [e, e] at h
  exact h
theorem addN_mem {l : List ByteArray} {n x : ByteArray} : x ∈ addN l n ↔ x ∈ l ∨ x = n := by
  unfold addN
  split
  · rename_i h
    obtain ⟨m, hm, e⟩ := List.any_eq_true.1 h
    have e := of_decide_eq_true e
    subst e
    exact ⟨Or.inl, fun h => h.elim id (fun e => e ▸ hm)⟩
  · simp
theorem addN_nodup {l : List ByteArray} {n : ByteArray} (h : l.Nodup) : (addN l n).Nodup := by
  unfold addN
  split
  · exact h
  · rename_i hn
    refine List.nodup_append.2 ⟨h, by simp, ?_⟩
    intro a ha b hb e
    simp at hb
    subst hb; subst e
    exact hn (List.any_eq_true.2 ⟨a, ha, by simp⟩)
theorem nodesF_prop (l : List Arr) : (nodesF l).Nodup ∧ ∀ x, x ∈ nodesF l ↔ x ∈ l.map fun a => a.nd := by
  have key : ∀ (l : List Arr) (s : List ByteArray), s.Nodup → (l.foldl (fun s x => addN s x.nd) s).Nodup ∧ ∀ x, x ∈ l.foldl (fun s x => addN s x.nd) s ↔ x ∈ s ∨ x ∈ l.map fun a => a.nd := by
    intro l
    induction l with
    | nil => intro s h; exact ⟨h, fun x => by simp⟩
    | cons a t ih =>
      intro s h
      obtain ⟨h1, h2⟩ := ih (addN s a.nd) (addN_nodup h)
      refine ⟨h1, fun x => ?_⟩
      rw [List.foldl_cons, h2, addN_mem, List.map_cons, List.mem_cons, or_assoc]
  obtain ⟨h1, h2⟩ := key l [] List.nodup_nil
  exact ⟨h1, fun x => by rw [show nodesF l = l.foldl (fun s x => addN s x.nd) [] from rfl, h2]; simp⟩
theorem nodes_len (l : List Arr) : (nodesG l).length = (nodesF l).length := by
  obtain ⟨h1, h2⟩ := nodesF_prop l
  have h3 : (nodesG l).Nodup := (cplF_lt leBy_anti (srtS_sorted _)).imp fun h => h.2
  have h4 : ∀ x, x ∈ nodesG l ↔ x ∈ l.map fun a => a.nd := fun x => by unfold nodesG; rw [cplF_mem, srtS_mem]
  exact ((List.perm_ext_iff_of_nodup h3 h1).2 fun x => by rw [h4, h2]).length_eq
end Go.Proofs.YtppmkgaobeccfaaGreatDoor
