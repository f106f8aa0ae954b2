/- Several texts in one: slices, and what follows. No condition. -/
import Derived.Test.YtagoolooikpabaaGreatDoorHVSortS
import Derived.Test.YtagoolooikpabaaGreatDoorHVSmp
import Derived.Test.YtagoolooikpabaaGreatDoorHVStr
set_option linter.all false
namespace Go.Proofs.YtagoolooikpabaaGreatDoor
open Go Go.RowKit
set_option maxRecDepth 100000
set_option maxHeartbeats 1000000
variable {H : Hp} {K : AV → Hp → Prop}
def cplG {α : Type} [DecidableEq α] : α → List α → List α
 | _, [] => []
 | p, y :: t => (if y = p then [] else [y]) ++ cplG y t
def cplF {α : Type} [DecidableEq α] : List α → List α
 | [] => []
 | x :: t => x :: cplG x t
theorem cplG_snoc {α : Type} [DecidableEq α] (y : α) : ∀ (t : List α) (p : α), cplG p (t ++ [y]) = cplG p t ++ (if y = ((p :: t)[t.length]'sMp) then [] else [y])
 | [], p => by simp [cplG]
 | z :: t, p => by
  rw [List.cons_append, cplG, cplG_snoc y t z, cplG, List.append_assoc]
  rfl
theorem cplF_succ {α : Type} [DecidableEq α] (l : List α) {j : Nat} (h1 : 1 ≤ j) (h : j < l.length) :
  cplF (l.take (j + 1)) = cplF (l.take j) ++ (if l[j] = (l[j - 1]'oMg) then [] else [l[j]]) := by
 obtain ⟨m, rfl⟩ : ∃ m, j = m + 1 := ⟨j - 1, by omega⟩
 cases l with
 | nil => simp at h
 | cons x t =>
  have hm : m < t.length := by simpa using h
  rw [List.take_succ_cons, List.take_succ_eq_append_getElem hm, List.take_succ_cons]
  show x :: cplG x (t.take m ++ [t[m]]) = x :: cplG x (t.take m) ++ _
  rw [cplG_snoc, List.cons_append]
  have e1 : (x :: t.take m)[(t.take m).length]'sMp = (x :: t)[m + 1 - 1] := by
   have hl : (t.take m).length = m := by rw [List.length_take]; omega
   have := List.getElem_take (xs := x :: t) (j := m + 1) (i := m) (h := by simp; omega)
   simp only [List.take_succ_cons] at this
   simp only [hl]
   exact this
  rw [e1]
  rfl
theorem cplF_few {α : Type} [DecidableEq α] (l : List α) (h : l.length < 2) : cplF l = l := by
 match l, h with
 | [], _ => rfl
 | [_], _ => rfl
end Go.Proofs.YtagoolooikpabaaGreatDoor
namespace Go.Proofs.YtagoolooikpabaaGreatDoor
open Go Go.RowKit
set_option maxRecDepth 100000
set_option maxHeartbeats 1000000
theorem cplG_mem {α : Type} [DecidableEq α] {x : α} : ∀ {t : List α} {p : α}, x ∈ p :: cplG p t ↔ x ∈ p :: t
 | [], p => by simp [cplG]
 | y :: t, p => by
  have ih := cplG_mem (x := x) (t := t) (p := y)
  unfold cplG
  by_cases h : y = p
  ·subst h
   simp only [if_true, List.nil_append]
   rw [ih]
   simp
  ·rw [if_neg h, List.singleton_append, List.mem_cons, ih, List.mem_cons (a := x) (b := p)]
theorem cplF_mem {α : Type} [DecidableEq α] {x : α} {l : List α} : x ∈ cplF l ↔ x ∈ l := by
 cases l with
 | nil => exact Iff.rfl
 | cons p t => exact cplG_mem
theorem srtS_mem {l : List ByteArray} {x : ByteArray} : x ∈ srtS l ↔ x ∈ l := by
 have h : toL x ∈ (srtS l).map toL ↔ toL x ∈ l.map toL := by rw [srtS_toL]; exact (List.mergeSort_perm _ _).mem_iff
 have hi : ∀ a b : ByteArray, toL a = toL b → a = b := fun a b h => by rw [← ofL_toL a, h, ofL_toL]
 have e : ∀ m : List ByteArray, toL x ∈ m.map toL ↔ x ∈ m := fun m => ⟨fun h => by obtain ⟨y, hy, e⟩ := List.mem_map.1 h; rw [← hi _ _ e]; exact hy, fun h => List.mem_map.2 ⟨x, h, rfl⟩⟩
 rw [e, e] at h
 exact h
end Go.Proofs.YtagoolooikpabaaGreatDoor
namespace Go.Proofs.YtagoolooikpabaaGreatDoor
open Go Go.RowKit
set_option maxRecDepth 100000
set_option maxHeartbeats 1000000
variable {H : Hp} {K : AV → Hp → Prop}
theorem aIf_valZ {c : Prop} {v v' : AV} {J : AV → Hp → Prop} (hc : c) (hv : v = v') (h : J v' H) : aIf c v H J := hv ▸ ⟨hc, h⟩
theorem len64z_a (hk : K (.c (.int .i64 0)) H) : ACalls Tryz.prog 216 [.c (.int .u64 0)] H K := by
 refine acalls Tryz.func216 rfl kRf gT (fun hH => ?_)
 refine gO ?_
 refine aIf_valZ (v' := .c (.int .u8 0)) dKn (congrArg (fun z => AV.c (.int .u8 z)) (by decide +kernel : _ = (0 : Int))) ?_
 refine gO ?_
 exact Ret.same lRf hk
theorem len0z_a (hk : K (.c (.int .i64 0)) H) : ACalls Tryz.prog 165 [.c (.int .u64 0)] H K := by
 refine acalls Tryz.func165 rfl kRf gT (fun hH => ?_)
 refine gO ?_
 refine len64z_a ?_
 refine gO ?_
 exact Ret.same lRf hk
theorem insNilSs_a (hk : K (.tup []) H) : ACalls Tryz.prog 206 [.c (.sl none 0), (.c (.int .i64 0)), (.c (.int .i64 0))] H K := by
 refine acalls Tryz.func206 rfl kRf gT (fun hH => ?_)
 refine gO ?_
 refine AWp.loop (H.length) [0, 1, 2] [6] (fun (q : Unit) => True) (fun (q : Unit) => [(6, (.c (.int .i64 1)))]) (fun (q : Unit) => H) (fun (q : Unit) => 0) kRf (fun _ => rfl) kRf sOo sOm kl ?_ (fun q hq _ _ => ?_)
 ·exact Next.mk () trivial wk
 refine gO ?_
 exact Ret.same lRf hk
theorem pdqNilSs_a {l : Nat} (hk : K (.tup []) H) : ACalls Tryz.prog 164 [.c (.sl none 0), (.c (.int .i64 0)), (.c (.int .i64 0)), (.c (.int .i64 l))] H K := by
 refine acallsS Tryz.func164 rfl gT (fun hH => ?_)
 (refine SWp.go kRf ?_; refine gO ?_)
 (refine SWp.go kRf ?_; refine gO ?_)
 refine SWp.inB ?_
 refine SWp.loop (H.length) [0] [1, 2, 3, 8, 9] (fun (s : Unit) => True) (fun (s : Unit) => [(1, (.c (.int .i64 0))), (2, (.c (.int .i64 0))), (3, (.c (.int .i64 l))), (8, (.c (.bool true))), (9, (.c (.bool true)))]) (fun (s : Unit) => H) (fun (s : Unit) => 0) (fun _ => rfl) kRf sOo sOm kl ?_ (fun s _ _ _ => ?_)
 ·exact Next.mk () trivial wk
 refine SWp.inB ?_
 refine SWp.of kRf ?_
 refine gO ?_
 refine insNilSs_a ?_
 refine gO ?_
 exact Ret.same sMp hk
theorem sortNilSs_a (hk : K (.tup []) H) : ACalls Tryz.prog 107 [.c (.sl none 0)] H K := by
 refine acalls Tryz.func107 rfl kRf gT (fun hH => ?_)
 refine gO ?_
 have hw : IntKind.u64.wrap (0 : Int) = (0 : Int) := by decide
 try rw [hw]
 refine len0z_a ?_
 refine gO ?_
 refine pdqNilSs_a (l := 0) ?_
 refine gO ?_
 exact Ret.same lRf hk
theorem sortVSs_a (l : List ByteArray) {i : Nat} (hi : H[i]? = some (grO 9 1 (l.map encSs))) (hlen : l.length ≤ 1000000) (hk : K (.tup []) (H.set i (grO 9 1 ((srtS l).map encSs)))) : ACalls Tryz.prog 107 [.c (grV i l)] H K := by
 by_cases h0 : l = []
 ·subst h0
  have e : srtS [] = [] := List.length_eq_zero_iff.1 (by rw [srtS_len]; rfl)
  rw [e, List.map_nil] at hk
  rw [List.map_nil] at hi
  rw [set_same hi] at hk
  exact sortNilSs_a hk
 ·have h1 : srtS l ≠ [] := by intro h; have := srtS_len l; rw [h] at this; exact h0 (List.length_eq_zero_iff.1 this.symm)
  rw [grO_pos _ _ (by simpa using h0)] at hi
  rw [grO_pos _ _ (by simpa using h1)] at hk
  rw [grV_pos _ h0]
  exact sortS_a l hi rfl h0 hlen hk
theorem appSs {i q ty : Nat} {own : Bool} {J : AV → Hp → Prop} (l : List ByteArray) (x : ByteArray) (l2 : List ByteArray) (e : l2 = l ++ [x]) (hi : H[i]? = some (grO 9 1 (l.map encSs))) (hj : H[q]? = some (.row ty 1 [[.str x]] own)) (hb : l.length ≤ 1000000000)
  (h : J (.c (grV H.length l2)) (H.set i .dead ++ [grO 9 1 (l2.map encSs)])) : aBuiltin Tryz.prog .append #[29, 29] [.c (grV i l), .c (.sl (some (q, 0)) 1)] H J := by
 subst e
 exact app_grR (enc := encSs) (e := 9) (sz := 1) (bs := 16) (z := [.str .empty]) l [x] kRf kRf kRf kRf hi (by rw [hj]; rfl) sMp rfl (by decide) (by simp; omega) (by simp; omega) h
end Go.Proofs.YtagoolooikpabaaGreatDoor
