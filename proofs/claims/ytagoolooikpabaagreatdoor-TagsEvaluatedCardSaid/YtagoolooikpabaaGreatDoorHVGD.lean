/- Several texts in one: Holds: what is wrong with them, in the program and in the document's answer, and what follows. No condition. -/
import Derived.Test.YtagoolooikpabaaGreatDoorHVStr
import Derived.Test.YtagoolooikpabaaGreatDoorHVSmp
set_option linter.all false
namespace Go.Proofs.YtagoolooikpabaaGreatDoor
open Go Go.RowKit
set_option maxRecDepth 100000
set_option maxHeartbeats 1000000
variable {H : Hp} {K : AV → Hp → Prop}
def leS (a b : ByteArray) : Bool := Op.bytesLess a.toList b.toList || decide (a = b)
@[go_sem] theorem leS_fold (a b : ByteArray) : (Op.bytesLess a.toList b.toList || decide (a = b)) = leS a b := (rfl)
def noS : ByteArray := ⟨#[]⟩
@[go_sem] theorem noS_fold : (⟨#[]⟩ : ByteArray) = noS := (rfl)
theorem leS_no {s : ByteArray} (h : isKey s) : leS s noS = false := by
 have h1 : s.size ≠ 0 := by have := h.1; omega
 have h2 : s ≠ noS := fun h' => h1 (size_zero.1 h')
 unfold leS
 rw [decide_eq_false h2, Bool.or_false, ByteArray.toList_eq, ByteArray.toList_eq]
 show Op.bytesLess s.data.toList [] = false
 cases s.data.toList <;> rfl
end Go.Proofs.YtagoolooikpabaaGreatDoor
namespace Go.Proofs.YtagoolooikpabaaGreatDoor
open Go Go.RowKit
set_option maxRecDepth 100000
set_option maxHeartbeats 1000000
variable {H : Hp} {K : AV → Hp → Prop}
def ordS (a b : ByteArray) : Int := Lib.compareBytes a.data.toList b.data.toList
theorem ordStrX (f : FuncId) (hf : externs Tryz.prog f Extern.BytealgCompare.compare) (a b : ByteArray) (hk : K (.c (.int .i64 (ordS a b))) H) : AExt Tryz.prog f [(.c (.str a)), (.c (.str b))] H K := by
 refine ⟨_, hf, fun B w0 ι w vs hs hr ho => ?_⟩
 obtain ⟨l⟩ := vs
 match l, hr with
 | [u, v], hr =>
  have h1 : u = .string a := hr.1
  have h2 : v = .string b := hr.2.1
  subst h1; subst h2
  exact ⟨_, w, Lib.run_compareString a b w, ι, _, (.c (.int .i64 (ordS a b))), H, rfl, Agree.refl _ _, Nat.le_refl _, hs, rfl, trivial, hk⟩
theorem ext_ordStr : externs Tryz.prog 267 Extern.BytealgCompare.compare := ⟨_, rfl, by kernel_rfl, by kernel_rfl, by kernel_rfl, by kernel_rfl⟩
theorem ordStr_a (a b : ByteArray) (hk : K (.c (.int .i64 (ordS a b))) H) : ACalls Tryz.prog 180 [(.c (.str a)), (.c (.str b))] H K := by
 have key : ∀ (K : AV → Hp → Prop), K (.c (.int .i64 (ordS a b))) H → ACalls Tryz.prog 227 [(.c (.str a)), (.c (.str b))] H K := by
  intro K hk
  refine acalls Tryz.func227 rfl kRf gT (fun hH => ?_)
  refine gO ?_
  refine ordStrX _ ext_ordStr a b ?_
  refine gO ?_
  exact Ret.same lRf hk
 refine acalls Tryz.func180 rfl kRf gT (fun hH => ?_)
 refine gO ?_
 refine key _ ?_
 refine gO ?_
 exact Ret.same lRf hk
theorem ordB_eq : ∀ a b : List UInt8, Lib.compareBytes a b = 0 ↔ a = b
 | [], [] => by simp [Lib.compareBytes]
 | [], _ :: _ => by simp [Lib.compareBytes]
 | _ :: _, [] => by simp [Lib.compareBytes]
 | a :: xs, b :: ys => by
  have ih := ordB_eq xs ys
  unfold Lib.compareBytes
  grind
theorem ordB_flip : ∀ a b : List UInt8, Lib.compareBytes b a = -Lib.compareBytes a b
 | [], [] => rfl
 | [], _ :: _ => rfl
 | _ :: _, [] => rfl
 | x :: xs, y :: ys => by
  have ih := ordB_flip xs ys
  unfold Lib.compareBytes
  grind
theorem ordB_trans : ∀ a b c : List UInt8, Lib.compareBytes a b < 0 → Lib.compareBytes b c < 0 → Lib.compareBytes a c < 0
 | [], [], _ => by simp [Lib.compareBytes]
 | [], _ :: _, [] => by simp [Lib.compareBytes]
 | [], _ :: _, _ :: _ => by simp [Lib.compareBytes]
 | _ :: _, [], _ => by simp [Lib.compareBytes]
 | _ :: _, _ :: _, [] => by simp [Lib.compareBytes]
 | x :: xs, y :: ys, z :: zs => by
  have ih := ordB_trans xs ys zs
  unfold Lib.compareBytes
  grind
theorem ordB_less : ∀ a b : List UInt8, Op.bytesLess a b = decide (Lib.compareBytes a b < 0)
 | [], [] => by simp [Lib.compareBytes, Op.bytesLess]
 | [], _ :: _ => by simp [Lib.compareBytes, Op.bytesLess]
 | _ :: _, [] => by simp [Lib.compareBytes, Op.bytesLess]
 | x :: xs, y :: ys => by
  have ih := ordB_less xs ys
  unfold Lib.compareBytes Op.bytesLess
  grind
theorem ordS_eq (a b : ByteArray) : ordS a b = 0 ↔ a = b := by
 unfold ordS
 rw [ordB_eq]
 constructor
 ·intro h
  obtain ⟨⟨a⟩⟩ := a
  obtain ⟨⟨b⟩⟩ := b
  simp only at h
  rw [h]
 ·rintro rfl; rfl
theorem ordS_flip (a b : ByteArray) : ordS b a = -ordS a b := ordB_flip _ _
theorem ordS_trans {a b c : ByteArray} (h1 : ordS a b < 0) (h2 : ordS b c < 0) : ordS a c < 0 := ordB_trans _ _ _ h1 h2
theorem ordS_rfl (a : ByteArray) : ordS a a = 0 := (ordS_eq a a).2 rfl
theorem leS_ord (a b : ByteArray) : leS a b = decide (ordS a b ≤ 0) := by
 have h : a.toList = a.data.toList ∧ b.toList = b.data.toList := ⟨ByteArray.toList_eq _, ByteArray.toList_eq _⟩
 unfold leS
 rw [h.1, h.2, ordB_less]
 have := ordS_eq a b
 unfold ordS at *
 grind
end Go.Proofs.YtagoolooikpabaaGreatDoor
namespace Go.Proofs.YtagoolooikpabaaGreatDoor
open Go Go.RowKit
set_option maxRecDepth 100000
set_option maxHeartbeats 1000000
abbrev Nme := ByteArray
def ltN (a b : Nme) : Prop := ordS a b < 0
instance (a b : Nme) : Decidable (ltN a b) := by unfold ltN; infer_instance
instance (priority := 10000) memDecN (x : Nme) (l : List Nme) : Decidable (x ∈ l) := @List.instDecidableMemOfLawfulBEq Nme instBEqOfDecidableEq inferInstance x l
theorem ltN_irr (a : Nme) : ¬ ltN a a := by unfold ltN; rw [ordS_rfl]; decide
theorem ltN_ne {a b : Nme} (h : ltN a b) : a ≠ b := fun e => ltN_irr b (e ▸ h)
/-! ### an order -/
def nextO (N : List Nme) (kids : Nme → List Nme) (out : List Nme) : Option Nme := N.find? fun x => decide (x ∉ out) && (kids x).all fun k => decide (k ∈ out)
def ordG (N : List Nme) (kids : Nme → List Nme) : Nat → List Nme → Option (List Nme)
 | 0, out => some out
 | n + 1, out => match nextO N kids out with
  | none => none
  | some x => ordG N kids n (out ++ [x])
def orderG (N : List Nme) (kids : Nme → List Nme) : Option (List Nme) := ordG N kids N.length []
theorem nextO_some {N : List Nme} {kids : Nme → List Nme} {out : List Nme} {x : Nme} (h : nextO N kids out = some x) : x ∈ N ∧ x ∉ out ∧ ∀ k ∈ kids x, k ∈ out := by
 unfold nextO at h
 have h1 := List.mem_of_find?_eq_some h
 have h2 := List.find?_some h
 rw [Bool.and_eq_true, decide_eq_true_eq, List.all_eq_true] at h2
 exact ⟨h1, h2.1, fun k hk => by simpa using h2.2 k hk⟩
def OrdOk (N : List Nme) (kids : Nme → List Nme) (o : List Nme) : Prop := o.Nodup ∧ (∀ x ∈ o, x ∈ N) ∧ ∀ (i : Nat) (h : i < o.length), ∀ k ∈ kids o[i], k ∈ o.take i
theorem OrdOk.snoc {N : List Nme} {kids : Nme → List Nme} {o : List Nme} {x : Nme} (h : OrdOk N kids o) (hx : nextO N kids o = some x) : OrdOk N kids (o ++ [x]) := by
 obtain ⟨h1, h2, h3⟩ := h
 obtain ⟨g1, g2, g3⟩ := nextO_some hx
 refine ⟨?_, fun y hy => ?_, fun i hi k hk => ?_⟩
 ·rw [List.nodup_append]
  refine ⟨h1, by simp, fun a ha b hb => ?_⟩
  rw [List.mem_singleton.1 hb]
  intro e
  exact g2 (e ▸ ha)
 ·rcases List.mem_append.1 hy with hy | hy
  ·exact h2 y hy
  ·rw [List.mem_singleton.1 hy]; exact g1
 ·by_cases hlt : i < o.length
  ·rw [List.getElem_append_left hlt] at hk
   rw [List.take_append_of_le_length oMg]
   exact h3 i hlt k hk
  ·have e : i = o.length := by rw [List.length_append, List.length_singleton] at hi; omega
   subst e
   rw [List.getElem_append_right lRf] at hk
   simp only [Nat.sub_self, List.getElem_cons_zero] at hk
   rw [List.take_left]
   exact g3 k hk
theorem ordG_ok {N : List Nme} {kids : Nme → List Nme} : ∀ (n : Nat) (out o : List Nme), OrdOk N kids out → ordG N kids n out = some o → OrdOk N kids o ∧ o.length = out.length + n
 | 0, out, o, h, e => by
  injection e with e
  subst e
  exact ⟨h, rfl⟩
 | n + 1, out, o, h, e => by
  unfold ordG at e
  split at e
  ·cases e
  ·rename_i x hx
   obtain ⟨g1, g2⟩ := ordG_ok n _ o (h.snoc hx) e
   exact ⟨g1, by rw [g2, List.length_append, List.length_singleton]; omega⟩
theorem orderG_ok {N : List Nme} {kids : Nme → List Nme} {o : List Nme} (h : orderG N kids = some o) : OrdOk N kids o ∧ o.length = N.length := by
 have := ordG_ok N.length [] o ⟨List.nodup_nil, by simp, fun i hi => absurd hi sMp⟩ h
 simpa using this
theorem nodup_len {α : Type} [DecidableEq α] : ∀ {a b : List α}, a.Nodup → (∀ x ∈ a, x ∈ b) → a.length ≤ b.length
 | [], _, _, _ => Nat.zero_le _
 | x :: a, b, h, hs => by
  rw [List.nodup_cons] at h
  have hx := hs x (List.mem_cons_self ..)
  have h1 : ∀ y ∈ a, y ∈ b.erase x := fun y hy => by
   refine (List.mem_erase_of_ne ?_).2 (hs y (List.mem_cons_of_mem _ hy))
   intro e
   exact h.1 (e ▸ hy)
  have h2 := nodup_len h.2 h1
  have h3 := List.length_erase_of_mem hx
  have h4 := List.length_pos_of_mem hx
  rw [List.length_cons]
  omega
theorem nodup_all {α : Type} [DecidableEq α] {a b : List α} (h : a.Nodup) (hs : ∀ x ∈ a, x ∈ b) (hl : b.length ≤ a.length) : ∀ x ∈ b, x ∈ a := fun x hx => Classical.byContradiction fun hn => by
 have h1 : (x :: a).Nodup := List.nodup_cons.2 ⟨hn, h⟩
 have h2 := nodup_len h1 (b := b) (fun y hy => by
  rcases List.mem_cons.1 hy with rfl | hy
  ·exact hx
  ·exact hs y hy)
 rw [List.length_cons] at h2
 omega
theorem rise_nodup {N : List Nme} (h : N.Pairwise ltN) : N.Nodup := h.imp fun h => ltN_ne h
/-! ### a shortest cycle -/
end Go.Proofs.YtagoolooikpabaaGreatDoor
namespace Go.Proofs.YtagoolooikpabaaGreatDoor
open Go Go.RowKit
set_option maxRecDepth 100000
set_option maxHeartbeats 1000000
variable {H : Hp} {K : AV → Hp → Prop}
theorem momentFaultR_a (m : Int) (hk : K (.c (.int .i64 (if 0 ≤ m ∧ m ≤ 345686399999 then 0 else 1))) H) : ACalls Tryz.prog 28 [(.c (.int .i64 m))] H K := by
 refine acalls Tryz.func28 rfl kRf gT (fun hH => ?_)
 refine gO ?_
 repeat' (first | ((first | refine acond_d ?_ ?_ | refine acond_b ?_ ?_ | refine ag_d ?_ ?_ | refine ag_n ?_ ?_ | refine ag_bt ?_ ?_ | refine ag_bf ?_ ?_) <;> intro c <;> try refine gO1 c ?_) | ((first | refine w_draw kRf dKn ?_ | refine momentR_a _ _ _ ?_) <;> try refine gO ?_))
 all_goals (first | refine Ret.sameE lRf (by assumption) ?_ | refine Ret.dropE (by assumption) lRf (by assumption) oKs ?_) <;> (first | rfl | (simp only [AV.c.injEq, AC.bool.injEq]; rw [Bool.eq_iff_iff]; simp only [Bool.not_eq_true', decide_eq_true_eq, decide_eq_false_iff_not, Bool.and_eq_true, Bool.or_eq_true]; omega) | grind | (simp [*]; done) | (simp [*]; omega))
end Go.Proofs.YtagoolooikpabaaGreatDoor
