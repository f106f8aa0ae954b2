/- A block's bytes. Condition: the samples are small, the tag is not empty. -/
import Derived.Test.YthgdllfkejlnmaaGreatDoorHVBytes3
import Derived.Test.YthgdllfkejlnmaaGreatDoorHVGB
import Derived.Test.YthgdllfkejlnmaaGreatDoorHVGD
namespace Go.Proofs.YthgdllfkejlnmaaGreatDoor
open Go Go.RowKit
set_option maxRecDepth 100000
set_option linter.all false
set_option maxHeartbeats 1000000
variable {H : Hp} {K : AV → Hp → Prop}
def smpB (p s : Smp) : List UInt8 := vb (zig (s.t - p.t)) ++ vb (zig (s.v - p.v)) ++ vb (zig s.q)
def smpsB : Smp → List Smp → List UInt8
  | _, [] => []
  | p, s :: r => smpB p s ++ smpsB s r
def headB (tag : ByteArray) (n : Nat) (o : Bool) : List UInt8 := [167, if o then 1 else 0] ++ vb (zig tag.size) ++ tag.data.toList ++ vb (zig n)
def bodyB (tag : ByteArray) (l : List Smp) (o : Bool) : List UInt8 := headB tag l.length o ++ smpsB ⟨0, 0, 0⟩ l
def blockB (tag : ByteArray) (l : List Smp) (o : Bool) : List UInt8 := bodyB tag l o ++ [u8I ((csum (bodyB tag l o) / 256 : Nat)), u8I ((csum (bodyB tag l o) % 256 : Nat))]
def smlS (s : Smp) : Prop := (-400000000000 ≤ s.t ∧ s.t ≤ 400000000000) ∧ (-1000000 ≤ s.v ∧ s.v ≤ 1000000) ∧ -1000000 ≤ s.q ∧ s.q ≤ 1000000
theorem vb_ne (z : Nat) : vb z ≠ [] := by have := vb_pos z; intro h; rw [h] at this; simp at this
theorem vb6 {n : Int} (h : okN n) : (vb (zig n)).length ≤ 6 := vb_len6 (by have := zig_most n h; omega)
theorem smpsB_snoc : ∀ (l : List Smp) (p s : Smp), smpsB p (l ++ [s]) = smpsB p l ++ smpB ((p :: l).getLast (by simp)) s
  | [], p, s => by simp [smpsB]
  | x :: l, p, s => by
    rw [List.cons_append, smpsB, smpsB, smpsB_snoc l x s, List.append_assoc]
    simp
theorem prv_last (p : Smp) (l : List Smp) (k : Nat) (hk : k ≤ l.length) : (p :: l.take k).getLast (by simp) = prv p l k := by
  rw [List.getLast_eq_getElem]
  unfold prv
  simp only [List.length_cons, List.length_take, Nat.add_sub_cancel, Nat.min_eq_left hk]
  cases k with
  | zero => rfl
  | succ k => simp [List.getD, show k < l.length by omega]
theorem smpsB_step (p : Smp) (l : List Smp) (k : Nat) (hk : k < l.length) : smpsB p (l.take (k + 1)) = smpsB p (l.take k) ++ smpB (prv p l k) l[k] := by
  rw [take_snoc l k hk, smpsB_snoc, prv_last p l k (by omega)]
theorem prv_sml (l : List Smp) (h : ∀ s ∈ l, smlS s) (k : Nat) : smlS (prv ⟨0, 0, 0⟩ l k) := by
  unfold prv
  rw [List.getD_eq_getElem?_getD]
  cases hk : ((⟨0, 0, 0⟩ : Smp) :: l)[k]? with
  | none => simp [smlS]
  | some s =>
    rcases List.mem_cons.1 (List.mem_of_getElem? hk) with rfl | h1
    · simp [smlS]
    · exact h s h1
theorem smpB_len {p s : Smp} (hp : smlS p) (hs : smlS s) : (smpB p s).length ≤ 18 := by
  obtain ⟨⟨a1, a2⟩, ⟨a3, a4⟩, a5, a6⟩ := hp
  obtain ⟨⟨b1, b2⟩, ⟨b3, b4⟩, b5, b6⟩ := hs
  have h1 := vb6 (n := s.t - p.t) ⟨by omega, by omega⟩
  have h2 := vb6 (n := s.v - p.v) ⟨by omega, by omega⟩
  have h3 := vb6 (n := s.q) ⟨by omega, by omega⟩
  simp only [smpB, List.length_append]
  omega
theorem smpsB_len : ∀ (l : List Smp) (p : Smp), smlS p → (∀ s ∈ l, smlS s) → (smpsB p l).length ≤ 18 * l.length
  | [], _, _, _ => by simp [smpsB]
  | s :: l, p, hp, h => by
    have h1 := smpB_len hp (h s (by simp))
    have h2 := smpsB_len l s (h s (by simp)) (fun x hx => h x (by simp [hx]))
    simp only [smpsB, List.length_append, List.length_cons]
    omega
theorem headB_len (tag : ByteArray) (n : Nat) (o : Bool) (ht : tag.size ≤ 1000) (hn : n ≤ 1000) : (headB tag n o).length ≤ 1020 := by
  have h1 := vb6 (n := tag.size) ⟨by omega, by omega⟩
  have h2 := vb6 (n := n) ⟨by omega, by omega⟩
  have h3 : tag.data.toList.length = tag.size := Array.length_toList
  simp only [headB, List.length_append, List.length_cons, List.length_nil]
  omega
end Go.Proofs.YthgdllfkejlnmaaGreatDoor
