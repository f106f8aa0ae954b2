/- slices.Contains, IndexFunc and ContainsFunc of strings. No condition. -/
import Derived.Test.YtagoolooikpabaaGreatDoorHVTgs
import Derived.Test.YtagoolooikpabaaGreatDoorHVGD
set_option linter.all false
namespace Go.Proofs.YtagoolooikpabaaGreatDoor
open Go Go.RowKit
set_option maxRecDepth 100000
set_option maxHeartbeats 1000000
variable {H : Hp} {K : AV → Hp → Prop}
theorem indexLstSx_a (f : FuncId) (caps : List (Nat × Nat × Nat)) (p : ByteArray → Bool) (he : entersB Tryz.prog f = true) (hc : ∀ (a b c : Nat), (a, b, c) ∈ caps → a < H.length) (l : List ByteArray) (hf : ∀ (x : ByteArray) (K : AV → Hp → Prop), x ∈ l → K (.c (.bool (p x))) H → ACalls Tryz.prog f ((.c (.str x)) :: caps.map fun q => .c (.ptr (some q))) H K) (hlen : l.length ≤ 1099511627776)
  (hk0 : l.any p = false → K (.c (.int .i64 (-1))) H) (hk1 : ∀ k : Nat, (h : k < l.length) → p l[k] = true → (∀ j (h : j < l.length), j < k → p l[j] = false) → K (.c (.int .i64 k)) H) : ACalls Tryz.prog 50 [.c (.lst 1 (l.map encSs)), .c (.fn f [] caps)] H K := by
 refine acalls Tryz.func50 rfl kRf gT (fun hH => ?_)
 refine gO ?_
 refine AWp.loop (H.length) [0, 1, 7] [8] (fun (k : Nat) => k ≤ l.length ∧ ∀ j (h : j < l.length), j < k → p l[j] = false) (fun (k : Nat) => [(8, (.c (.int .i64 k)))]) (fun (k : Nat) => H) (fun (k : Nat) => l.length - k) kRf (fun _ => rfl) kRf sOo sOm kl ?_ (fun k hk1' _ _ => ?_)
 ·exact Next.mk 0 sMp wk
 obtain ⟨hk1', hk2⟩ := hk1'
 by_cases hlt : k < l.length
 ·refine gO1 he ?_
  refine hf l[k] _ (List.getElem_mem hlt) ?_
  refine gO ?_
  refine acond_b (fun c => ?_) (fun c => ?_)
  ·refine gO ?_
   exact Ret.same lRf (hk1 k hlt c hk2)
  ·refine gO ?_
   refine Next.mk (k + 1) ⟨⟨by omega, fun j h hj => ?_⟩, by omega⟩ wk
   rcases Nat.lt_or_ge j k with h1 | h1
   ·exact hk2 j h h1
   ·obtain rfl : j = k := by omega
    simpa using c
 ·refine gO ?_
  refine Ret.same lRf (hk0 ?_)
  rw [List.any_eq_false]
  intro x hx
  obtain ⟨j, hj, rfl⟩ := List.getElem_of_mem hx
  simpa using hk2 j hj oMg
theorem contLstSx_a (f : FuncId) (caps : List (Nat × Nat × Nat)) (p : ByteArray → Bool) (he : entersB Tryz.prog f = true) (hc : ∀ (a b c : Nat), (a, b, c) ∈ caps → a < H.length) (l : List ByteArray) (hf : ∀ (x : ByteArray) (K : AV → Hp → Prop), x ∈ l → K (.c (.bool (p x))) H → ACalls Tryz.prog f ((.c (.str x)) :: caps.map fun q => .c (.ptr (some q))) H K) (hlen : l.length ≤ 1099511627776)
  (hk : K (.c (.bool (l.any p))) H) : ACalls Tryz.prog 36 [.c (.lst 1 (l.map encSs)), .c (.fn f [] caps)] H K := by
 refine acalls Tryz.func36 rfl kRf gT (fun hH => ?_)
 refine gO ?_
 refine indexLstSx_a f caps p he hc l hf hlen (fun h => ?_) (fun k h1 h2 _ => ?_)
 ·rw [h] at hk
  refine gO ?_
  exact Ret.same lRf hk
 ·rw [show l.any p = true from List.any_eq_true.2 ⟨_, List.getElem_mem h1, h2⟩] at hk
  refine gO ?_
  exact Ret.same lRf hk
theorem ixRwSx_a {i ty n : Nat} {own : Bool} (l : List ByteArray) (x : ByteArray) (hi : H[i]? = some (.row ty 1 (l.map encSs) own)) (hn : n = l.length) (hlen : l.length ≤ 1099511627776) (hk : ∀ r : Int, (0 ≤ r ↔ x ∈ l) → K (.c (.int .i64 r)) H) : ACalls Tryz.prog 38 [.c (.sl (some (i, 0)) n), (.c (.str x))] H K := by
 subst hn
 have hilt := getElem?_lt hi
 refine acalls Tryz.func38 rfl kRf gT (fun hH => ?_)
 refine gO ?_
 refine AWp.loop (H.length) [0, 1, 7] [8] (fun (k : Nat) => k ≤ l.length ∧ ∀ j (h : j < l.length), j < k → l[j] ≠ x) (fun (k : Nat) => [(8, (.c (.int .i64 k)))]) (fun (k : Nat) => H) (fun (k : Nat) => l.length - k) kRf (fun _ => rfl) kRf sOo sOm kl ?_ (fun k hk1 _ _ => ?_)
 ·exact Next.mk 0 sMp wk
 obtain ⟨hk1, hk2⟩ := hk1
 by_cases hlt : k < l.length
 ·refine gO1 hi ?_
  refine acond_d (fun c => ?_) (fun c => ?_)
  ·have c2 : l[k] = x := by first | exact c | exact c.symm | exact of_decide_eq_true c
   refine gO ?_
   refine Ret.same lRf (hk k ?_)
   simp only [Int.natCast_nonneg, true_iff]
   rw [← c2]
   exact List.getElem_mem _
  ·have c2 : l[k] ≠ x := by first | exact c | exact Ne.symm c | exact fun e => c e.symm
   refine gO ?_
   refine Next.mk (k + 1) ⟨⟨by omega, fun j h hj => ?_⟩, by omega⟩ wk
   rcases Nat.lt_or_ge j k with h1 | h1
   ·exact hk2 j h h1
   ·obtain rfl : j = k := by omega
    exact c2
 ·refine gO ?_
  refine Ret.same lRf (hk (-1) ?_)
  have : x ∉ l := by
   intro hx
   obtain ⟨j, hj, e⟩ := List.getElem_of_mem hx
   exact hk2 j hj oMg e
  simp [this]
theorem ixNoSx_a (x : ByteArray) (hk : K (.c (.int .i64 (-1))) H) : ACalls Tryz.prog 38 [.c (.sl none 0), (.c (.str x))] H K := by
 refine acalls Tryz.func38 rfl kRf gT (fun hH => ?_)
 refine gO ?_
 refine AWp.rounds 0 kRf ?_
 refine gO ?_
 exact Ret.same lRf hk
theorem hasGrSx_a {i : Nat} (l : List ByteArray) (x : ByteArray) (hi : H[i]? = some (grO 9 1 (l.map encSs))) (hlen : l.length ≤ 1099511627776) (hk : K (.c (.bool (decide (x ∈ l)))) H) : ACalls Tryz.prog 35 [.c (grV i l), (.c (.str x))] H K := by
 cases l with
 | nil =>
  show ACalls _ _ [.c (.sl none 0), (.c (.str x))] H K
  refine acalls Tryz.func35 rfl kRf gT (fun hH => ?_)
  refine gO ?_
  refine ixNoSx_a x ?_
  refine gO ?_
  exact Ret.same lRf hk
 | cons y t =>
  rw [grV_pos _ sMp]
  rw [grO_pos _ _ sMp] at hi
  refine acalls Tryz.func35 rfl kRf gT (fun hH => ?_)
  refine gO ?_
  refine ixRwSx_a (y :: t) x hi rfl hlen (fun r hr => ?_)
  refine gO ?_
  refine Ret.same lRf ?_
  rw [show decide (0 ≤ r) = decide (x ∈ y :: t) by rw [Bool.eq_iff_iff, decide_eq_true_eq, decide_eq_true_eq]; exact hr]
  exact hk
end Go.Proofs.YtagoolooikpabaaGreatDoor
