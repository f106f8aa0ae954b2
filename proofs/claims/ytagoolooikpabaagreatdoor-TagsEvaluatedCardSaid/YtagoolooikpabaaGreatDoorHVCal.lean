/- Calculated tags: where one stands, in the document. Condition: the list is not huge. -/
import Derived.Test.YtagoolooikpabaaGreatDoorHVStr
set_option linter.all false
namespace Go.Proofs.YtagoolooikpabaaGreatDoor
open Go Go.RowKit
set_option maxRecDepth 100000
set_option maxHeartbeats 1000000
variable {H : Hp} {K : AV → Hp → Prop}
structure Cal where
 tg : ByteArray
 ex : ByteArray
def encCl (x : Cal) : List AC := [.str x.tg, .str x.ex]
attribute [go_sem] encCl
theorem indexLstCl_a (f : FuncId) (caps : List (Nat × Nat × Nat)) (p : Cal → Bool) (he : entersB Tryz.prog f = true) (hc : ∀ (a b c : Nat), (a, b, c) ∈ caps → a < H.length) (l : List Cal) (hf : ∀ (x : Cal) (K : AV → Hp → Prop), x ∈ l → K (.c (.bool (p x))) H → ACalls Tryz.prog f (.agg (encCl x) :: caps.map fun q => .c (.ptr (some q))) H K) (hlen : l.length ≤ 1099511627776)
  (hk0 : l.any p = false → K (.c (.int .i64 (-1))) H) (hk1 : ∀ k : Nat, (h : k < l.length) → p l[k] = true → (∀ j (h : j < l.length), j < k → p l[j] = false) → K (.c (.int .i64 k)) H) : ACalls Tryz.prog 62 [.c (.lst 2 (l.map encCl)), .c (.fn f [] caps)] H K := by
 refine acalls Tryz.func62 rfl kRf gT (fun hH => ?_)
 refine gO ?_
 refine AWp.loop (H.length) [0, 1, 7] [8] (fun (k : Nat) => k ≤ l.length ∧ ∀ j (h : j < l.length), j < k → p l[j] = false) (fun (k : Nat) => [(8, (.c (.int .i64 k)))]) (fun (k : Nat) => H) (fun (k : Nat) => l.length - k) kRf (fun _ => rfl) kRf sOo sOm kl ?_ (fun k hk1' _ _ => ?_)
 ·exact Next.mk 0 sMp wk
 obtain ⟨hk1', hk2⟩ := hk1'
 by_cases hlt : k < l.length
 ·refine gO1 he ?_
  refine hf l[k] _ (List.getElem_mem hlt) ?_
  refine gO ?_
  refine acond_b (fun c => ?_) (fun c => ?_)
  ·refine gO ?_
   exact Ret.same lRf (hk1 k hlt c hk2)
  ·refine gO ?_
   refine Next.mk (k + 1) ⟨⟨by omega, fun j h hj => ?_⟩, by omega⟩ wk
   rcases Nat.lt_or_ge j k with h1 | h1
   ·exact hk2 j h h1
   ·obtain rfl : j = k := by omega
    simpa using c
 ·refine gO ?_
  refine Ret.same lRf (hk0 ?_)
  rw [List.any_eq_false]
  intro x hx
  obtain ⟨j, hj, rfl⟩ := List.getElem_of_mem hx
  simpa using hk2 j hj oMg
theorem isTag_a (x : Cal) (t : ByteArray) {i : Nat} (hi : H[i]? = some (.row 9 1 [[.str t]] true)) (hk : K (.c (.bool (decide (x.tg = t)))) H) : ACalls Tryz.prog 92 [.agg (encCl x), .c (.ptr (some (i, 0, 0)))] H K := by
 have hil := getElem?_lt hi
 refine acalls Tryz.func92 rfl kRf gT (fun hH => ?_)
 refine gO1 hi ?_
 exact Ret.drop hH lRf trivial hk
def nC (cs : List Cal) (t : ByteArray) : Prop := ∀ x ∈ cs, x.tg ≠ t
instance (cs : List Cal) (t : ByteArray) : Decidable (nC cs t) := by unfold nC; infer_instance
theorem calAt_a (cs : List Cal) (t : ByteArray) (hlen : cs.length ≤ 1000000) (hk0 : nC cs t → K (.c (.int .i64 (-1))) H) (hk1 : ∀ k : Nat, (h : k < cs.length) → cs[k].tg = t → (∀ j (h : j < cs.length), j < k → cs[j].tg ≠ t) → K (.c (.int .i64 k)) H) : ACalls Tryz.prog 33 [.c (.lst 2 (cs.map encCl)), (.c (.str t))] H K := by
 have he : entersB Tryz.prog 92 = true := by kernel_rfl
 refine acalls Tryz.func33 rfl kRf gT (fun hH => ?_)
 refine gO1 he ?_
 refine indexLstCl_a 92 [(H.length, 0, 0)] (fun x => decide (x.tg = t)) he (fun a b c h => by simp only [List.mem_singleton, Prod.mk.injEq] at h; obtain ⟨rfl, rfl, rfl⟩ := h; simp) cs (fun x K hx hk => isTag_a x t (i := H.length) sMp hk) oMg (fun h => ?_) (fun k h1 h2 h3 => ?_)
 ·refine gO ?_
  refine Ret.drop hH lRf trivial (hk0 fun x hx e => ?_)
  rw [List.any_eq_false] at h
  exact h x hx (by simpa using e)
 ·refine gO ?_
  exact Ret.drop hH lRf trivial (hk1 k h1 (by simpa using h2) (fun j hj hjk e => by have := h3 j hj hjk; simp [e] at this))
end Go.Proofs.YtagoolooikpabaaGreatDoor
