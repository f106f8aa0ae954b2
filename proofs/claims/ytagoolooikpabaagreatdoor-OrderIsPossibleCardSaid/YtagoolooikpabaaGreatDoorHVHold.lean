/- Several texts in one: Holds: what is wrong with them, in the program and in the document's answer, and what follows. No condition. -/
import Derived.Test.YtagoolooikpabaaGreatDoorHVStr
set_option linter.all false
namespace Go.Proofs.YtagoolooikpabaaGreatDoor
open Go Go.RowKit
set_option maxRecDepth 100000
set_option maxHeartbeats 1000000
variable {H : Hp} {K : AV → Hp → Prop}
def leS (a b : ByteArray) : Bool := Op.bytesLess a.toList b.toList || decide (a = b)
@[go_sem] theorem leS_fold (a b : ByteArray) : (Op.bytesLess a.toList b.toList || decide (a = b)) = leS a b := (rfl)
def noS : ByteArray := ⟨#[]⟩
@[go_sem] theorem noS_fold : (⟨#[]⟩ : ByteArray) = noS := (rfl)
theorem leS_no {s : ByteArray} (h : isKey s) : leS s noS = false := by
 have h1 : s.size ≠ 0 := by have := h.1; omega
 have h2 : s ≠ noS := fun h' => h1 (size_zero.1 h')
 unfold leS
 rw [decide_eq_false h2, Bool.or_false, ByteArray.toList_eq, ByteArray.toList_eq]
 show Op.bytesLess s.data.toList [] = false
 cases s.data.toList <;> rfl
end Go.Proofs.YtagoolooikpabaaGreatDoor
namespace Go.Proofs.YtagoolooikpabaaGreatDoor
open Go Go.RowKit
set_option maxRecDepth 100000
set_option maxHeartbeats 1000000
variable {H : Hp} {K : AV → Hp → Prop}
def ordS (a b : ByteArray) : Int := Lib.compareBytes a.data.toList b.data.toList
theorem ordB_eq : ∀ a b : List UInt8, Lib.compareBytes a b = 0 ↔ a = b
 | [], [] => by simp [Lib.compareBytes]
 | [], _ :: _ => by simp [Lib.compareBytes]
 | _ :: _, [] => by simp [Lib.compareBytes]
 | a :: xs, b :: ys => by
  have ih := ordB_eq xs ys
  unfold Lib.compareBytes
  grind
theorem ordB_flip : ∀ a b : List UInt8, Lib.compareBytes b a = -Lib.compareBytes a b
 | [], [] => rfl
 | [], _ :: _ => rfl
 | _ :: _, [] => rfl
 | x :: xs, y :: ys => by
  have ih := ordB_flip xs ys
  unfold Lib.compareBytes
  grind
theorem ordB_trans : ∀ a b c : List UInt8, Lib.compareBytes a b < 0 → Lib.compareBytes b c < 0 → Lib.compareBytes a c < 0
 | [], [], _ => by simp [Lib.compareBytes]
 | [], _ :: _, [] => by simp [Lib.compareBytes]
 | [], _ :: _, _ :: _ => by simp [Lib.compareBytes]
 | _ :: _, [], _ => by simp [Lib.compareBytes]
 | _ :: _, _ :: _, [] => by simp [Lib.compareBytes]
 | x :: xs, y :: ys, z :: zs => by
  have ih := ordB_trans xs ys zs
  unfold Lib.compareBytes
  grind
theorem ordB_less : ∀ a b : List UInt8, Op.bytesLess a b = decide (Lib.compareBytes a b < 0)
 | [], [] => by simp [Lib.compareBytes, Op.bytesLess]
 | [], _ :: _ => by simp [Lib.compareBytes, Op.bytesLess]
 | _ :: _, [] => by simp [Lib.compareBytes, Op.bytesLess]
 | x :: xs, y :: ys => by
  have ih := ordB_less xs ys
  unfold Lib.compareBytes Op.bytesLess
  grind
theorem ordS_eq (a b : ByteArray) : ordS a b = 0 ↔ a = b := by
 unfold ordS
 rw [ordB_eq]
 constructor
 ·intro h
  obtain ⟨⟨a⟩⟩ := a
  obtain ⟨⟨b⟩⟩ := b
  simp only at h
  rw [h]
 ·rintro rfl; rfl
theorem ordS_flip (a b : ByteArray) : ordS b a = -ordS a b := ordB_flip _ _
theorem ordS_trans {a b c : ByteArray} (h1 : ordS a b < 0) (h2 : ordS b c < 0) : ordS a c < 0 := ordB_trans _ _ _ h1 h2
theorem ordS_rfl (a : ByteArray) : ordS a a = 0 := (ordS_eq a a).2 rfl
theorem leS_ord (a b : ByteArray) : leS a b = decide (ordS a b ≤ 0) := by
 have h : a.toList = a.data.toList ∧ b.toList = b.data.toList := ⟨ByteArray.toList_eq _, ByteArray.toList_eq _⟩
 unfold leS
 rw [h.1, h.2, ordB_less]
 have := ordS_eq a b
 unfold ordS at *
 grind
theorem lt_ord (a b : ByteArray) : Op.bytesLess a.toList b.toList = decide (ordS a b < 0) := by
 have h : a.toList = a.data.toList ∧ b.toList = b.data.toList := ⟨ByteArray.toList_eq _, ByteArray.toList_eq _⟩
 rw [h.1, h.2, ordB_less]
 rfl
end Go.Proofs.YtagoolooikpabaaGreatDoor
namespace Go.Proofs.YtagoolooikpabaaGreatDoor
open Go Go.RowKit
set_option maxRecDepth 100000
set_option maxHeartbeats 1000000
abbrev Nme := ByteArray
def ltN (a b : Nme) : Prop := ordS a b < 0
instance (a b : Nme) : Decidable (ltN a b) := by unfold ltN; infer_instance
instance (priority := 10000) memDecN (x : Nme) (l : List Nme) : Decidable (x ∈ l) := @List.instDecidableMemOfLawfulBEq Nme instBEqOfDecidableEq inferInstance x l
theorem ltN_irr (a : Nme) : ¬ ltN a a := by unfold ltN; rw [ordS_rfl]; decide
theorem ltN_trans {a b c : Nme} (h1 : ltN a b) (h2 : ltN b c) : ltN a c := ordS_trans h1 h2
theorem ltN_ne {a b : Nme} (h : ltN a b) : a ≠ b := fun e => ltN_irr b (e ▸ h)
def Wk (kids : Nme → List Nme) (to : Nme) : Nat → Nme → Prop
 | 0, _ => False
 | 1, s => to ∈ kids s
 | n + 2, s => ∃ k ∈ kids s, ltN to k ∧ Wk kids to (n + 1) k
theorem Wk_one {kids : Nme → List Nme} {to s : Nme} : Wk kids to 1 s ↔ to ∈ kids s := Iff.rfl
theorem Wk_more {kids : Nme → List Nme} {to s : Nme} {n : Nat} : Wk kids to (n + 2) s ↔ ∃ k ∈ kids s, ltN to k ∧ Wk kids to (n + 1) k := Iff.rfl
theorem Wk_step {kids : Nme → List Nme} {to s k : Nme} {n : Nat} (h1 : k ∈ kids s) (h2 : ltN to k) (h3 : Wk kids to n k) : Wk kids to (n + 1) s := by
 cases n with
 | zero => exact h3.elim
 | succ n => exact ⟨k, h1, h2, h3⟩
theorem Wk_pos {kids : Nme → List Nme} {to s : Nme} {n : Nat} (h : Wk kids to n s) : 1 ≤ n := by
 cases n with
 | zero => exact h.elim
 | succ n => omega
theorem Wk_trans {kids : Nme → List Nme} {u t : Nme} (hu : ltN u t) : ∀ {n m : Nat} {s : Nme}, Wk kids t n s → Wk kids u m t → Wk kids u (n + m) s
 | 0, _, _, h, _ => h.elim
 | 1, m, s, h, g => by
  rw [show 1 + m = m + 1 by omega]
  exact Wk_step h hu g
 | n + 2, m, s, h, g => by
  obtain ⟨k, h1, h2, h3⟩ := h
  rw [show n + 2 + m = (n + 1 + m) + 1 by omega]
  exact Wk_step h1 (ltN_trans hu h2) (Wk_trans hu h3 g)
/-! ### an order -/
def nextO (N : List Nme) (kids : Nme → List Nme) (out : List Nme) : Option Nme := N.find? fun x => decide (x ∉ out) && (kids x).all fun k => decide (k ∈ out)
def ordG (N : List Nme) (kids : Nme → List Nme) : Nat → List Nme → Option (List Nme)
 | 0, out => some out
 | n + 1, out => match nextO N kids out with
  | none => none
  | some x => ordG N kids n (out ++ [x])
def orderG (N : List Nme) (kids : Nme → List Nme) : Option (List Nme) := ordG N kids N.length []
theorem nextO_some {N : List Nme} {kids : Nme → List Nme} {out : List Nme} {x : Nme} (h : nextO N kids out = some x) : x ∈ N ∧ x ∉ out ∧ ∀ k ∈ kids x, k ∈ out := by
 unfold nextO at h
 have h1 := List.mem_of_find?_eq_some h
 have h2 := List.find?_some h
 rw [Bool.and_eq_true, decide_eq_true_eq, List.all_eq_true] at h2
 exact ⟨h1, h2.1, fun k hk => by simpa using h2.2 k hk⟩
theorem nextO_none {N : List Nme} {kids : Nme → List Nme} {out : List Nme} (h : nextO N kids out = none) : ∀ x ∈ N, x ∉ out → ∃ k ∈ kids x, k ∉ out := by
 unfold nextO at h
 rw [List.find?_eq_none] at h
 intro x hx hn
 have h1 := h x hx
 rw [Bool.and_eq_true, decide_eq_true_eq, List.all_eq_true] at h1
 refine Classical.byContradiction fun hc => h1 ⟨hn, fun k hk => ?_⟩
 rw [decide_eq_true_eq]
 exact Classical.byContradiction fun hk2 => hc ⟨k, hk, hk2⟩
def OrdOk (N : List Nme) (kids : Nme → List Nme) (o : List Nme) : Prop := o.Nodup ∧ (∀ x ∈ o, x ∈ N) ∧ ∀ (i : Nat) (h : i < o.length), ∀ k ∈ kids o[i], k ∈ o.take i
theorem OrdOk.snoc {N : List Nme} {kids : Nme → List Nme} {o : List Nme} {x : Nme} (h : OrdOk N kids o) (hx : nextO N kids o = some x) : OrdOk N kids (o ++ [x]) := by
 obtain ⟨h1, h2, h3⟩ := h
 obtain ⟨g1, g2, g3⟩ := nextO_some hx
 refine ⟨?_, fun y hy => ?_, fun i hi k hk => ?_⟩
 ·rw [List.nodup_append]
  refine ⟨h1, by simp, fun a ha b hb => ?_⟩
  rw [List.mem_singleton.1 hb]
  intro e
  exact g2 (e ▸ ha)
 ·rcases List.mem_append.1 hy with hy | hy
  ·exact h2 y hy
  ·rw [List.mem_singleton.1 hy]; exact g1
 ·by_cases hlt : i < o.length
  ·rw [List.getElem_append_left hlt] at hk
   rw [List.take_append_of_le_length (by omega)]
   exact h3 i hlt k hk
  ·have e : i = o.length := by rw [List.length_append, List.length_singleton] at hi; omega
   subst e
   rw [List.getElem_append_right (Nat.le_refl _)] at hk
   simp only [Nat.sub_self, List.getElem_cons_zero] at hk
   rw [List.take_left]
   exact g3 k hk
theorem ordG_ok {N : List Nme} {kids : Nme → List Nme} : ∀ (n : Nat) (out o : List Nme), OrdOk N kids out → ordG N kids n out = some o → OrdOk N kids o ∧ o.length = out.length + n
 | 0, out, o, h, e => by
  injection e with e
  subst e
  exact ⟨h, rfl⟩
 | n + 1, out, o, h, e => by
  unfold ordG at e
  split at e
  ·cases e
  ·rename_i x hx
   obtain ⟨g1, g2⟩ := ordG_ok n _ o (h.snoc hx) e
   exact ⟨g1, by rw [g2, List.length_append, List.length_singleton]; omega⟩
theorem orderG_ok {N : List Nme} {kids : Nme → List Nme} {o : List Nme} (h : orderG N kids = some o) : OrdOk N kids o ∧ o.length = N.length := by
 have := ordG_ok N.length [] o ⟨List.nodup_nil, by simp, fun i hi => absurd hi (by simp)⟩ h
 simpa using this
theorem nodup_len {α : Type} [DecidableEq α] : ∀ {a b : List α}, a.Nodup → (∀ x ∈ a, x ∈ b) → a.length ≤ b.length
 | [], _, _, _ => Nat.zero_le _
 | x :: a, b, h, hs => by
  rw [List.nodup_cons] at h
  have hx := hs x (List.mem_cons_self ..)
  have h1 : ∀ y ∈ a, y ∈ b.erase x := fun y hy => by
   refine (List.mem_erase_of_ne ?_).2 (hs y (List.mem_cons_of_mem _ hy))
   intro e
   exact h.1 (e ▸ hy)
  have h2 := nodup_len h.2 h1
  have h3 := List.length_erase_of_mem hx
  have h4 := List.length_pos_of_mem hx
  rw [List.length_cons]
  omega
theorem nodup_all {α : Type} [DecidableEq α] {a b : List α} (h : a.Nodup) (hs : ∀ x ∈ a, x ∈ b) (hl : b.length ≤ a.length) : ∀ x ∈ b, x ∈ a := fun x hx => Classical.byContradiction fun hn => by
 have h1 : (x :: a).Nodup := List.nodup_cons.2 ⟨hn, h⟩
 have h2 := nodup_len h1 (b := b) (fun y hy => by
  rcases List.mem_cons.1 hy with rfl | hy
  ·exact hx
  ·exact hs y hy)
 rw [List.length_cons] at h2
 omega
theorem take_idx {o : List Nme} (hn : o.Nodup) {i j : Nat} (hj : j < o.length) (h : o[j] ∈ o.take i) : j < i := by
 obtain ⟨q, hq, e⟩ := List.getElem_of_mem h
 rw [List.length_take] at hq
 rw [List.getElem_take] at e
 have := (List.getElem_inj hn).1 e
 omega
theorem Wk_down {N : List Nme} {kids : Nme → List Nme} {o : List Nme} (h : OrdOk N kids o) {to : Nme} : ∀ (n : Nat) (j : Nat) (hj : j < o.length), Wk kids to n o[j] → ∃ i, ∃ h : i < o.length, i < j ∧ o[i] = to
 | 0, _, _, g => g.elim
 | 1, j, hj, g => by
  have h1 := h.2.2 j hj to g
  obtain ⟨q, hq, e⟩ := List.getElem_of_mem h1
  rw [List.length_take] at hq
  rw [List.getElem_take] at e
  exact ⟨q, by omega, by omega, e⟩
 | n + 2, j, hj, g => by
  obtain ⟨k, g1, g2, g3⟩ := g
  have h1 := h.2.2 j hj k g1
  obtain ⟨q, hq, e⟩ := List.getElem_of_mem h1
  rw [List.length_take] at hq
  rw [List.getElem_take] at e
  rw [← e] at g3
  obtain ⟨i, hi, h2, h3⟩ := Wk_down h (n + 1) q (by omega) g3
  exact ⟨i, hi, by omega, h3⟩
theorem order_no_cycle {N : List Nme} {kids : Nme → List Nme} {o : List Nme} (h : orderG N kids = some o) (x : Nme) (hx : x ∈ N) (n : Nat) : ¬ Wk kids x n x := fun g => by
 obtain ⟨h1, h2⟩ := orderG_ok h
 have hall := nodup_all h1.1 h1.2.1 (by omega)
 obtain ⟨j, hj, e⟩ := List.getElem_of_mem (hall x hx)
 rw [← e] at g
 have g' : Wk kids x n o[j] := by rw [e] at g ⊢; exact g
 obtain ⟨i, hi, h3, h4⟩ := Wk_down h1 n j hj g'
 have := (List.getElem_inj h1.1 (h₀ := hi) (h₁ := hj)).1 (h4.trans e.symm)
 omega
theorem stuck_cycle {kids : Nme → List Nme} {S : Nme → Prop} (hS : ∀ s, S s → ∃ k ∈ kids s, S k) : ∀ (L : List Nme), L.Pairwise ltN → (∀ s, S s → s ∈ L) → (∃ s, S s) → ∃ x n, S x ∧ Wk kids x n x := by
 intro L hL hSL hne
 refine Classical.byContradiction fun hc => ?_
 have hc : ∀ x n, S x → ¬ Wk kids x n x := fun x n h1 h2 => hc ⟨x, n, h1, h2⟩
 -- from each name of a tail one comes to a lesser one
 have key : ∀ (B A : List Nme), A ++ B = L → ∀ s ∈ B, S s → ∃ u, S u ∧ u ∈ A ∧ ∃ n, Wk kids u n s := by
  intro B
  induction B with
  | nil => intro A _ s hs; cases hs
  | cons t B ih =>
   intro A hAB
   have ih := ih (A ++ [t]) (by rw [List.append_assoc]; exact hAB)
   have hp : ∀ a ∈ A, ltN a t := fun a ha => by
    rw [← hAB, List.pairwise_append] at hL
    exact hL.2.2 a ha t (List.mem_cons_self ..)
   have hp2 : ∀ b ∈ B, ltN t b := fun b hb => by
    rw [← hAB, List.pairwise_append, List.pairwise_cons] at hL
    exact hL.2.1.1 b hb
   have ht : S t → ∃ u, S u ∧ u ∈ A ∧ ∃ n, Wk kids u n t := fun hSt => by
    obtain ⟨k, hk, hSk⟩ := hS t hSt
    have hkL := hSL k hSk
    rw [← hAB] at hkL
    rcases List.mem_append.1 hkL with hkA | hkB
    ·exact ⟨k, hSk, hkA, 1, hk⟩
    ·rcases List.mem_cons.1 hkB with rfl | hkC
     ·exact absurd (hk : Wk kids k 1 k) (hc k 1 hSk)
     ·obtain ⟨u, hu, huA, n, hw⟩ := ih k hkC hSk
      rcases List.mem_append.1 huA with huA | huA
      ·exact ⟨u, hu, huA, n + 1, Wk_step hk (ltN_trans (hp u huA) (hp2 k hkC)) hw⟩
      ·have e := List.mem_singleton.1 huA
       subst e
       exact absurd (Wk_step hk (hp2 k hkC) hw) (hc u (n + 1) hSt)
   intro s hs hSs
   rcases List.mem_cons.1 hs with rfl | hs
   ·exact ht hSs
   ·obtain ⟨u, hu, huA, n, hw⟩ := ih s hs hSs
    rcases List.mem_append.1 huA with huA | huA
    ·exact ⟨u, hu, huA, n, hw⟩
    ·have e := List.mem_singleton.1 huA
     subst e
     obtain ⟨v, hv, hvA, m, hw2⟩ := ht hu
     exact ⟨v, hv, hvA, n + m, Wk_trans (hp v hvA) hw hw2⟩
 obtain ⟨s, hs⟩ := hne
 obtain ⟨u, _, hu, _⟩ := key L [] rfl s (hSL s hs) hs
 cases hu
theorem ordG_none {N : List Nme} (hN : N.Nodup) {kids : Nme → List Nme} : ∀ (n : Nat) (out : List Nme), OrdOk N kids out → out.length + n = N.length → ordG N kids n out = none → ∃ out' : List Nme, (∃ x ∈ N, x ∉ out') ∧ ∀ x ∈ N, x ∉ out' → ∃ k ∈ kids x, k ∉ out'
 | 0, _, _, _, h => by cases h
 | n + 1, out, ho, hl, h => by
  unfold ordG at h
  split at h
  ·rename_i hx
   refine ⟨out, ?_, nextO_none hx⟩
   refine Classical.byContradiction fun hc => ?_
   have : ∀ x ∈ N, x ∈ out := fun x hx => Classical.byContradiction fun hn => hc ⟨x, hx, hn⟩
   have h2 := nodup_len hN this
   omega
  ·rename_i x hx
   exact ordG_none hN n _ (ho.snoc hx) (by rw [List.length_append, List.length_singleton]; omega) h
theorem rise_nodup {N : List Nme} (h : N.Pairwise ltN) : N.Nodup := h.imp fun h => ltN_ne h
theorem no_order_cycle {N : List Nme} (hN : N.Pairwise ltN) {kids : Nme → List Nme} (hk : ∀ x ∈ N, ∀ k ∈ kids x, k ∈ N) (h : orderG N kids = none) : ∃ x ∈ N, ∃ n, Wk kids x n x := by
 obtain ⟨out, ⟨x0, h1, h2⟩, h3⟩ := ordG_none (rise_nodup hN) N.length [] ⟨List.nodup_nil, by simp, fun i hi => absurd hi (by simp)⟩ (by simp) h
 obtain ⟨x, n, hx, hw⟩ := stuck_cycle (kids := kids) (S := fun s => s ∈ N ∧ s ∉ out) (fun s hs => by
  obtain ⟨k, hk1, hk2⟩ := h3 s hs.1 hs.2
  exact ⟨k, hk1, hk s hs.1 k hk1, hk2⟩) N hN (fun s hs => hs.1) ⟨x0, h1, h2⟩
 exact ⟨x, hx.1, n, hw⟩
/-! ### a shortest cycle -/
def closG (kids : Nme → List Nme) (n : Nat) : Nat → List Nme → Nme → Nme → Option (List Nme)
 | 0, row, x, last => if x ∈ kids last then some row else none
 | f + 1, row, x, last => (kids last).findSome? fun k => if ltN x k ∧ k ∉ row then closG kids n f (row ++ [k]) x k else none
def cycN (N : List Nme) (kids : Nme → List Nme) (n : Nat) : Option (List Nme) := N.findSome? fun x => closG kids n (n - 1) [x] x x
def cycG (N : List Nme) (kids : Nme → List Nme) : List Nme := ((List.range' 1 N.length).findSome? fun n => cycN N kids n).getD []
def wayG (kids : Nme → List Nme) (x : Nme) (way : Nat → Nme → Bool) : Nat → List Nme → Nme → List Nme
 | 0, row, _ => row
 | f + 1, row, last => match (kids last).find? fun k => decide (ltN x k) && way (f + 1) k with
  | none => row
  | some k => wayG kids x way f (row ++ [k]) k
theorem clos_wk {kids : Nme → List Nme} {n : Nat} {x : Nme} : ∀ (f : Nat) (row : List Nme) (last : Nme) (l : List Nme), closG kids n f row x last = some l → Wk kids x (f + 1) last
 | 0, row, last, l, h => by
  unfold closG at h
  split at h
  ·assumption
  ·cases h
 | f + 1, row, last, l, h => by
  unfold closG at h
  obtain ⟨k, hk, g⟩ := List.exists_of_findSome?_eq_some h
  split at g
  ·rename_i hc
   exact Wk_step hk hc.1 (clos_wk f _ _ _ g)
  ·cases g
theorem clos_way {kids : Nme → List Nme} {x : Nme} {n : Nat} (hmin : ∀ m, m < n → ¬ Wk kids x m x) {way : Nat → Nme → Bool} (hway : ∀ m k, ltN x k → 1 ≤ m → m < n → (way m k = true ↔ Wk kids x m k ∧ ∀ m' < m, ¬ Wk kids x m' k)) : ∀ (f : Nat) (row : List Nme) (last : Nme), row.length + f = n → row ≠ [] → (∀ (i : Nat) (h : i < row.length) (m : Nat), Wk kids x m row[i] → Wk kids x (i + m) x) → (∀ m, Wk kids x m last → Wk kids x (row.length - 1 + m) x) → Wk kids x (f + 1) last → closG kids n f row x last = some (wayG kids x way f row last)
 | 0, row, last, hl, hne, hr, hlast, hw => by
  unfold closG wayG
  exact if_pos hw
 | f + 1, row, last, hl, hne, hr, hlast, hw => by
  have hpos : 0 < row.length := List.length_pos_iff.2 hne
  -- the next one is the first from which f + 1 steps lead back
  have hk : ∀ k ∈ kids last, ltN x k → ((k ∉ row ∧ Wk kids x (f + 1) k) ↔ way (f + 1) k = true) := fun k hk hlt => by
   have hshort : ∀ m, Wk kids x m k → Wk kids x (row.length + m) x := fun m hm => by
    have := hlast (m + 1) (Wk_step hk hlt hm)
    rw [show row.length - 1 + (m + 1) = row.length + m by omega] at this
    exact this
   rw [hway (f + 1) k hlt (by omega) (by omega)]
   constructor
   ·rintro ⟨_, h2⟩
    exact ⟨h2, fun m' hm' hw' => hmin _ (by omega) (hshort m' hw')⟩
   ·rintro ⟨h1, h2⟩
    refine ⟨fun hin => ?_, h1⟩
    obtain ⟨i, hi, e⟩ := List.getElem_of_mem hin
    exact hmin _ (by omega) (hr i hi (f + 1) (e ▸ h1))
  have hfind : ∀ (L : List Nme), (∀ k ∈ L, k ∈ kids last) → (∃ k ∈ L, ltN x k ∧ Wk kids x (f + 1) k) → ∃ k, L.find? (fun k => decide (ltN x k) && way (f + 1) k) = some k ∧ (L.findSome? fun k => if ltN x k ∧ k ∉ row then closG kids n f (row ++ [k]) x k else none) = some (wayG kids x way f (row ++ [k]) k) := by
   intro L
   induction L with
   | nil => rintro _ ⟨k, hk, _⟩; cases hk
   | cons a L ih =>
    intro hs hex
    have ha := hs a (List.mem_cons_self ..)
    by_cases hlt : ltN x a
    ·by_cases hw2 : Wk kids x (f + 1) a
     ·have hnot : a ∉ row := fun hin => by
       obtain ⟨i, hi, e⟩ := List.getElem_of_mem hin
       exact hmin _ (by omega) (hr i hi (f + 1) (e ▸ hw2))
      have hwy := (hk a ha hlt).1 ⟨hnot, hw2⟩
      have hshort : ∀ m, Wk kids x m a → Wk kids x (row.length + m) x := fun m hm => by
       have := hlast (m + 1) (Wk_step ha hlt hm)
       rw [show row.length - 1 + (m + 1) = row.length + m by omega] at this
       exact this
      have h1 := clos_way hmin hway f (row ++ [a]) a (by rw [List.length_append, List.length_singleton]; omega) (by simp) (fun i hi m hm => by
       by_cases hlt2 : i < row.length
       ·rw [List.getElem_append_left hlt2] at hm
        exact hr i hlt2 m hm
       ·have e : i = row.length := by rw [List.length_append, List.length_singleton] at hi; omega
        subst e
        rw [List.getElem_append_right (Nat.le_refl _)] at hm
        simp only [Nat.sub_self, List.getElem_cons_zero] at hm
        exact hshort m hm) (fun m hm => by
       rw [List.length_append, List.length_singleton, show row.length + 1 - 1 + m = row.length + m by omega]
       exact hshort m hm) hw2
      refine ⟨a, ?_, ?_⟩
      ·rw [List.find?_cons_of_pos (by simp [hlt, hwy])]
      ·rw [List.findSome?_cons, if_pos ⟨hlt, hnot⟩, h1]
     ·have hwy : ¬ way (f + 1) a = true := fun e => hw2 ((hk a ha hlt).2 e).2
      have hcl : (if ltN x a ∧ a ∉ row then closG kids n f (row ++ [a]) x a else none) = none := by
       split
       ·cases hcl : closG kids n f (row ++ [a]) x a with
        | none => rfl
        | some l => exact absurd (clos_wk f _ _ _ hcl) hw2
       ·rfl
      obtain ⟨k, g1, g2⟩ := ih (fun k hk => hs k (List.mem_cons_of_mem _ hk)) (by
       obtain ⟨k, hk, h1, h2⟩ := hex
       rcases List.mem_cons.1 hk with rfl | hk
       ·exact absurd h2 hw2
       ·exact ⟨k, hk, h1, h2⟩)
      refine ⟨k, ?_, ?_⟩
      ·rw [List.find?_cons_of_neg (by simp [hlt, hwy])]
       exact g1
      ·rw [List.findSome?_cons, hcl]
       exact g2
    ·obtain ⟨k, g1, g2⟩ := ih (fun k hk => hs k (List.mem_cons_of_mem _ hk)) (by
      obtain ⟨k, hk, h1, h2⟩ := hex
      rcases List.mem_cons.1 hk with rfl | hk
      ·exact absurd h1 hlt
      ·exact ⟨k, hk, h1, h2⟩)
     refine ⟨k, ?_, ?_⟩
     ·rw [List.find?_cons_of_neg (by simp [hlt])]
      exact g1
     ·rw [List.findSome?_cons, if_neg (fun e => hlt e.1)]
      exact g2
  obtain ⟨k, hk1, hk2, hk3⟩ := hw
  obtain ⟨k', g1, g2⟩ := hfind (kids last) (fun k hk => hk) ⟨k, hk1, hk2, hk3⟩
  unfold closG wayG
  rw [g1, g2]
theorem clos_row {N : List Nme} {kids : Nme → List Nme} (hN : ∀ s ∈ N, ∀ k ∈ kids s, k ∈ N) {n : Nat} {x : Nme} : ∀ (f : Nat) (row : List Nme) (last : Nme) (l : List Nme), row.Nodup → (∀ y ∈ row, y ∈ N) → last ∈ N → closG kids n f row x last = some l → l.Nodup ∧ (∀ y ∈ l, y ∈ N) ∧ l.length = row.length + f
 | 0, row, last, l, h1, h2, h3, h => by
  unfold closG at h
  split at h
  ·injection h with h
   subst h
   exact ⟨h1, h2, rfl⟩
  ·cases h
 | f + 1, row, last, l, h1, h2, h3, h => by
  unfold closG at h
  obtain ⟨k, hk, g⟩ := List.exists_of_findSome?_eq_some h
  split at g
  ·rename_i hc
   have hkN := hN last h3 k hk
   obtain ⟨g1, g2, g3⟩ := clos_row hN f (row ++ [k]) k l (by
    rw [List.nodup_append]
    refine ⟨h1, by simp, fun a ha b hb => ?_⟩
    rw [List.mem_singleton.1 hb]
    intro e
    exact hc.2 (e ▸ ha)) (fun y hy => by
    rcases List.mem_append.1 hy with hy | hy
    ·exact h2 y hy
    ·rw [List.mem_singleton.1 hy]; exact hkN) hkN g
   exact ⟨g1, g2, by rw [g3, List.length_append, List.length_singleton]; omega⟩
  ·cases g
def Chain (kids : Nme → List Nme) (l : List Nme) : Prop := ∀ (i : Nat) (h : i < l.length), (∀ h2 : i + 1 < l.length, l[i + 1] ∈ kids l[i]) ∧ (i + 1 = l.length → l[0]'(by omega) ∈ kids l[i]) ∧ (0 < i → ltN (l[0]'(by omega)) l[i])
theorem clos_chain {kids : Nme → List Nme} {n : Nat} {x : Nme} : ∀ (f : Nat) (row : List Nme) (last : Nme) (l : List Nme), (∃ h : 0 < row.length, row[0] = x ∧ row[row.length - 1] = last) → (∀ (i : Nat) (h : i < row.length), (∀ h2 : i + 1 < row.length, row[i + 1] ∈ kids row[i]) ∧ (0 < i → ltN x row[i])) → closG kids n f row x last = some l → Chain kids l ∧ l[0]? = some x
 | 0, row, last, l, ⟨hp, h0, hl⟩, hr, h => by
  unfold closG at h
  split at h
  ·rename_i hin
   injection h with h
   subst h
   refine ⟨fun i hi => ⟨(hr i hi).1, fun e => ?_, fun hi0 => ?_⟩, by rw [List.getElem?_eq_getElem hp, h0]⟩
   ·have : i = row.length - 1 := by omega
    subst this
    rw [hl, h0]
    exact hin
   ·rw [h0]
    exact (hr i hi).2 hi0
  ·cases h
 | f + 1, row, last, l, ⟨hp, h0, hl⟩, hr, h => by
  unfold closG at h
  obtain ⟨k, hk, g⟩ := List.exists_of_findSome?_eq_some h
  split at g
  ·rename_i hc
   refine clos_chain f (row ++ [k]) k l ⟨by simp, ?_, ?_⟩ (fun i hi => ?_) g
   ·rw [List.getElem_append_left hp, h0]
   ·rw [List.getElem_append_right (by simp)]
    simp
   ·have hi' : i ≤ row.length := by rw [List.length_append, List.length_singleton] at hi; omega
    by_cases e : i = row.length
    ·subst e
     refine ⟨fun h2 => by rw [List.length_append, List.length_singleton] at h2; omega, fun _ => ?_⟩
     rw [List.getElem_append_right (Nat.le_refl _)]
     simp only [Nat.sub_self, List.getElem_cons_zero]
     exact hc.1
    ·have hlt : i < row.length := by omega
     refine ⟨fun h2 => ?_, fun hi0 => ?_⟩
     ·rw [List.getElem_append_left hlt]
      by_cases e2 : i + 1 < row.length
      ·rw [List.getElem_append_left e2]
       exact (hr i hlt).1 e2
      ·have e3 : i = row.length - 1 := by omega
       rw [List.getElem_append_right (by omega)]
       subst e3
       rw [hl]
       simp only [show row.length - 1 + 1 - row.length = 0 by omega, List.getElem_cons_zero]
       exact hk
     ·rw [List.getElem_append_left hlt]
      exact (hr i hlt).2 hi0
  ·cases g
theorem cyc_none {N : List Nme} {kids : Nme → List Nme} (h : ∀ x ∈ N, ∀ n, ¬ Wk kids x n x) : cycG N kids = [] := by
 have h1 : (List.range' 1 N.length).findSome? (fun n => cycN N kids n) = none := by
  rw [List.findSome?_eq_none_iff]
  intro n _
  unfold cycN
  rw [List.findSome?_eq_none_iff]
  intro x hx
  cases hcl : closG kids n (n - 1) [x] x x with
  | none => rfl
  | some l => exact absurd (clos_wk _ _ _ _ hcl) (h x hx _)
 unfold cycG
 rw [h1]
 rfl
theorem findSome_skip {α β : Type} {f : α → Option β} : ∀ {a b : List α}, (∀ x ∈ a, f x = none) → (a ++ b).findSome? f = b.findSome? f
 | [], _, _ => rfl
 | x :: a, b, h => by
  rw [List.cons_append, List.findSome?_cons, h x (List.mem_cons_self ..)]
  exact findSome_skip fun y hy => h y (List.mem_cons_of_mem _ hy)
theorem cyc_some {N A B : List Nme} {kids : Nme → List Nme} (hN : ∀ s ∈ N, ∀ k ∈ kids s, k ∈ N) {x : Nme} {n : Nat} (hAB : N = A ++ x :: B) (hmin : ∀ y ∈ N, ∀ m, m < n → ¬ Wk kids y m y) (hA : ∀ y ∈ A, ¬ Wk kids y n y) (hx : Wk kids x n x) {way : Nat → Nme → Bool} (hway : ∀ m k, ltN x k → 1 ≤ m → m < n → (way m k = true ↔ Wk kids x m k ∧ ∀ m' < m, ¬ Wk kids x m' k)) :
  cycG N kids = wayG kids x way (n - 1) [x] x ∧ Chain kids (cycG N kids) ∧ (cycG N kids)[0]? = some x := by
 have hn := Wk_pos hx
 have hxN : x ∈ N := by rw [hAB]; simp
 have e1 : n - 1 + 1 = n := by omega
 have hcl := clos_way (hmin x hxN) hway (n - 1) [x] x (by simp; omega) (by simp) (fun i hi m hm => by
  have : i = 0 := by simp at hi; omega
  subst this
  rw [Nat.zero_add]
  exact hm) (fun m hm => by simpa using hm) (by rw [e1]; exact hx)
 obtain ⟨r1, r2, r3⟩ := clos_row hN _ _ _ _ (by simp) (by simpa using hxN) hxN hcl
 have hch := clos_chain _ _ _ _ ⟨by simp, rfl, rfl⟩ (fun i hi => by
  have : i = 0 := by simp at hi; omega
  subst this
  exact ⟨fun h2 => absurd h2 (by simp), fun h => absurd h (by omega)⟩) hcl
 have hlen := nodup_len r1 r2
 rw [r3, List.length_singleton] at hlen
 have hc : cycN N kids n = some (wayG kids x way (n - 1) [x] x) := by
  unfold cycN
  rw [hAB, findSome_skip (fun y hy => ?_), List.findSome?_cons, hcl]
  cases hcl2 : closG kids n (n - 1) [y] y y with
  | none => rfl
  | some l =>
   have := clos_wk _ _ _ _ hcl2
   rw [e1] at this
   exact absurd this (hA y hy)
 have hb : ∀ m, 1 ≤ m → m < n → cycN N kids m = none := fun m h1 h2 => by
  unfold cycN
  rw [List.findSome?_eq_none_iff]
  intro y hy
  cases hcl2 : closG kids m (m - 1) [y] y y with
  | none => rfl
  | some l =>
   have := clos_wk _ _ _ _ hcl2
   exact absurd this (hmin y hy _ (by omega))
 have hcy : cycG N kids = wayG kids x way (n - 1) [x] x := by
  unfold cycG
  have e2 : List.range' 1 N.length = List.range' 1 (n - 1) ++ (n :: List.range' (n + 1) (N.length - n)) := by
   have h1 := @List.range'_append_1 1 (n - 1) (N.length - n + 1)
   rw [show 1 + (n - 1) = n by omega, show n - 1 + (N.length - n + 1) = N.length by omega, List.range'_succ] at h1
   exact h1.symm
  rw [e2, findSome_skip (fun m hm => ?_), List.findSome?_cons, hc]
  ·rfl
  ·rw [List.mem_range'_1] at hm
   exact hb m (by omega) (by omega)
 rw [hcy]
 exact ⟨rfl, hch⟩
end Go.Proofs.YtagoolooikpabaaGreatDoor
