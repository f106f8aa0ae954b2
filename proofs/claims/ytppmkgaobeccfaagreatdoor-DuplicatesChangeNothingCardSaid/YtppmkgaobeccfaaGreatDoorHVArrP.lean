/- Several texts in one: How long arrivals of a node were on their way: the program's answer and the document's, and what follows. No condition. -/
import Derived.Test.YtppmkgaobeccfaaGreatDoorHVArrO
/- How long arrivals of a node were on their way: the program's answer and the document's. Condition: names' sizes; at most a million. -/
namespace Go.Proofs.YtppmkgaobeccfaaGreatDoor
open Go Go.RowKit
set_option maxRecDepth 100000
set_option linter.all false
set_option maxHeartbeats 1000000
variable {H : Hp} {K : AV → Hp → Prop}
theorem smpErr_bd {s : Smp} (h : smpErr s = 0) : 0 ≤ s.t ∧ s.t ≤ 345686399999 := by
  unfold smpErr at h
  split at h
  · omega
  · omega
theorem arrErr_smp {a : Arr} (h : arrErr a = 0) : smpErr a.p.s = 0 := by
  unfold arrErr at h
  split at h
  · omega
  · split at h
    · omega
    · split at h
      · omega
      · exact h
/-! ### the document's -/
def fiN (l : List Arr) (k : Nat) : List Nat := (List.range k).filter fun i => !isD l i
theorem fiN_len (l : List Arr) (k : Nat) : (fiN l k).length ≤ k := by
  unfold fiN
  have := List.length_filter_le (fun i => !isD l i) (List.range k)
  rwa [List.length_range] at this
theorem dupF_has (l : List Arr) {k : Nat} (h : k < l.length) : decide ((k : Int) ∈ dupF l l.length) = isD l k := by
  rw [Bool.eq_iff_iff, decide_eq_true_eq]
  unfold dupF
  rw [List.mem_map]
  constructor
  · rintro ⟨i, hi, e⟩
    have : i = k := by omega
    subst this
    exact (List.mem_filter.1 hi).2
  · intro hd
    exact ⟨k, List.mem_filter.2 ⟨List.mem_range.2 h, hd⟩, rfl⟩
end Go.Proofs.YtppmkgaobeccfaaGreatDoor
/- The numbers that are missing: between those that arrived, and one by one: the same rows; and the document's answer. Condition: at most a million. -/
namespace Go.Proofs.YtppmkgaobeccfaaGreatDoor
open Go Go.RowKit
set_option maxRecDepth 100000
set_option linter.all false
set_option maxHeartbeats 1000000
variable {H : Hp} {K : AV → Hp → Prop}
theorem moF_max (n : ByteArray) : ∀ (l : List Arr) (y : Int), y ∈ evF l n → y ≤ moF l n := by
  have key : ∀ (l : List Arr) (s : List Int) (m : Int), (∀ y ∈ s, y ≤ m) → ∀ y ∈ l.foldl (fun s x => if x.nd = n then addE s x.p.n else s) s, y ≤ l.foldl (fun s x => if x.nd = n then max s x.p.n else s) m := by
    intro l
    induction l with
    | nil => intro s m h y hy; exact h y hy
    | cons a t ih =>
      intro s m h
      rw [List.foldl_cons, List.foldl_cons]
      by_cases ha : a.nd = n
      · rw [if_pos ha, if_pos ha]
        refine ih _ _ (fun y hy => ?_)
        rcases addE_mem2 hy with hy | hy
        · have := h y hy; omega
        · omega
      · rw [if_neg ha, if_neg ha]
        exact ih _ _ h
  intro l y hy
  exact key l [] 0 (by simp) y hy
theorem moF_in (n : ByteArray) : ∀ (l : List Arr), moF l n = 0 ∨ moF l n ∈ evF l n := by
  have key : ∀ (l : List Arr) (s : List Int) (m : Int), (m = 0 ∨ m ∈ s) → (l.foldl (fun s x => if x.nd = n then max s x.p.n else s) m = 0 ∨ l.foldl (fun s x => if x.nd = n then max s x.p.n else s) m ∈ l.foldl (fun s x => if x.nd = n then addE s x.p.n else s) s) := by
    intro l
    induction l with
    | nil => intro s m h; exact h
    | cons a t ih =>
      intro s m h
      rw [List.foldl_cons, List.foldl_cons]
      by_cases ha : a.nd = n
      · rw [if_pos ha, if_pos ha]
        refine ih _ _ ?_
        by_cases hm : m ≤ a.p.n
        · right
          rw [Int.max_eq_right hm]
          exact addE_mem.2 (Or.inr rfl)
        · rw [Int.max_eq_left (by omega)]
          rcases h with h | h
          · exact Or.inl h
          · exact Or.inr (addE_mem.2 (Or.inl h))
      · rw [if_neg ha, if_neg ha]
        exact ih _ _ h
  intro l
  exact key l [] 0 (Or.inl rfl)
end Go.Proofs.YtppmkgaobeccfaaGreatDoor
