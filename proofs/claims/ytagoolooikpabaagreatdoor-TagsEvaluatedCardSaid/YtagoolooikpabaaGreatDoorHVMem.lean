/- Maps from a name and a number to what these say. No condition. -/
import Derived.Test.YtagoolooikpabaaGreatDoorHVEvn
import Derived.Test.YtagoolooikpabaaGreatDoorHVTvM
set_option linter.all false
namespace Go.Proofs.YtagoolooikpabaaGreatDoor
open Go Go.RowKit
set_option maxRecDepth 100000
set_option maxHeartbeats 1000000
def kyA (k : Ky) : List AC := [.str k.1, .int .i64 k.2]
def memE (v : Ky → AV) (k : Ky) : AV × AV := (.agg [.str k.1, .int .i64 k.2], v k)
def kyP (k y : Ky) : Bool := decide (k.1 = y.1) && decide (k.2 = y.2)
theorem kyP_eq (k y : Ky) : kyP k y = true ↔ k = y := by
 obtain ⟨a, b⟩ := k
 obtain ⟨c, d⟩ := y
 simp [kyP]
theorem findA_sk {α : Type} {kt : TypeId} (hf : fieldsK Tryz.prog kt = some [(0, 3), (1, 1)]) (a : ByteArray) (n : Int) (f : α → ByteArray) (g : α → Int) (h : α → AV) : ∀ l : List α, findA Tryz.prog kt (.agg [.str a, .int .i64 n]) (l.map fun y => (AV.agg [.str (f y), .int .i64 (g y)], h y)) = some (l.findIdx? fun y => decide (a = f y) && decide (n = g y))
 | [] => rfl
 | x :: l => by
  have e : keyEqS Tryz.prog kt (.agg [.str a, .int .i64 n]) (.agg [.str (f x), .int .i64 (g x)]) = some (decide (a = f x) && decide (n = g x)) := by
   rw [keyEqS_agg, hf]
   have hc : coverL [(0, 3), (1, 1)] 2 = true := by decide
   simp only [List.length_cons, List.length_nil, hc, Bool.and_self, if_true]
   simp only [eqF, eqC, List.getElem?_cons_zero, List.getElem?_cons_succ, str_eq, if_true, Bool.and_true]
   rw [show (n == g x) = decide (n = g x) by rw [Bool.eq_iff_iff, beq_iff_eq, decide_eq_true_eq]]
  simp only [List.map_cons, findA, e, List.findIdx?_cons]
  cases hb : (decide (a = f x) && decide (n = g x)) with
  | true => simp
  | false =>
   simp only [Bool.false_eq_true, if_false]
   rw [findA_sk hf a n f g h l]
   rfl
theorem ups_ky (k : Ky) : ∀ M : List Ky, upsert (kyP k) k M = addK M k
 | [] => by simp [upsert, addK]
 | y :: l => by
  have ih := ups_ky k l
  unfold upsert addK at ih ⊢
  rw [List.findIdx?_cons]
  by_cases hy : k = y
  ·subst hy
   have : kyP k k = true := (kyP_eq k k).2 rfl
   simp [this]
  ·have : kyP k y = false := by
    cases h : kyP k y with
    | false => rfl
    | true => exact absurd ((kyP_eq k y).1 h) hy
   simp only [this, Bool.false_eq_true, if_false, List.mem_cons, hy, false_or]
   cases hq : l.findIdx? (kyP k) with
   | none =>
    rw [hq] at ih
    simp only [Option.map_none] at ih ⊢
    by_cases hm : k ∈ l
    ·rw [if_pos hm] at ih ⊢
     simp at ih
    ·rw [if_neg hm]
   | some i =>
    rw [hq] at ih
    simp only [Option.map_some, List.set_cons_succ] at ih ⊢
    by_cases hm : k ∈ l
    ·rw [if_pos hm] at ih ⊢
     rw [ih]
    ·rw [if_neg hm] at ih
     have := congrArg List.length ih
     simp at this
theorem get_mem {kt : TypeId} (hf : fieldsK Tryz.prog kt = some [(0, 3), (1, 1)]) (k : Ky) (ht : keyT Tryz.prog kt (.agg [.str k.1, .int .i64 k.2]) = true) (v : Ky → AV) (z : AV) (M : List Ky) : mapGet Tryz.prog kt (.agg [.str k.1, .int .i64 k.2]) (some z) (M.map (memE v)) = some (if k ∈ M then (v k, true) else (z, false)) := by
 rw [get_of (z := z) (e := memE v) (p := kyP k) ht (findA_sk hf k.1 k.2 (fun y : Ky => y.1) (fun y : Ky => y.2) v M)]
 cases h : M.find? (kyP k) with
 | none =>
  have hn : k ∉ M := fun hm => by
   have := List.find?_eq_none.1 h k hm
   exact this ((kyP_eq k k).2 rfl)
  rw [if_neg hn]
 | some y =>
  have h1 := (kyP_eq k y).1 (List.find?_some h)
  subst h1
  rw [if_pos (List.mem_of_find?_eq_some h)]
  rfl
theorem put_mem {kt : TypeId} (hf : fieldsK Tryz.prog kt = some [(0, 3), (1, 1)]) (k : Ky) (ht : keyT Tryz.prog kt (.agg [.str k.1, .int .i64 k.2]) = true) (v : Ky → AV) (M : List Ky) : mapPut Tryz.prog kt (.agg [.str k.1, .int .i64 k.2]) (v k) (M.map (memE v)) = some ((addK M k).map (memE v)) := by
 have h1 := put_of (P := Tryz.prog) (e := memE v) (p := kyP k) (x := k) (l := M) ht (findA_sk hf k.1 k.2 (fun y : Ky => y.1) (fun y : Ky => y.2) v M) rfl
 rw [ups_ky] at h1
 exact h1
def memT (A C : Hp) (v : Ky → AV) (M : List Ky) : Hp := A ++ mpO (M.map (memE v)) :: C
theorem memT_len (A C : Hp) (v : Ky → AV) (M : List Ky) : (memT A C v M).length = A.length + 1 + C.length := by unfold memT; simp; omega
theorem memT_at (A C : Hp) (v : Ky → AV) (M : List Ky) : (memT A C v M)[A.length]? = some (mpO (M.map (memE v))) := by unfold memT; simp
theorem memT_set (A C R : Hp) (v : Ky → AV) (M M2 : List Ky) : (memT A C v M ++ R).set A.length (mpO (M2.map (memE v))) = memT A C v M2 ++ R := by
 unfold memT
 rw [List.append_assoc, List.set_append_right _ _ lRf, Nat.sub_self, List.append_assoc]
 rfl
theorem memE_okN (v : Ky → AV) (hv : ∀ k n, (v k).ok n) (M : List Ky) (n : Nat) : (mpO (M.map (memE v))).okN n := by
 unfold mpO AObj.okN
 intro p hp
 obtain ⟨x, _, rfl⟩ := List.mem_map.1 hp
 refine ⟨?_, hv _ _⟩
 intro c hc; simp at hc; rcases hc with rfl | rfl <;> trivial
theorem memT_ok {A C : Hp} {v : Ky → AV} (hv : ∀ k n, (v k).ok n) {M M2 : List Ky} {R : Hp} (h : HOk (memT A C v M ++ R)) : HOk (memT A C v M2 ++ R) := by
 have := h.set (i := A.length) (o := mpO (M2.map (memE v))) (memE_okN v hv M2 _)
 rwa [memT_set] at this
end Go.Proofs.YtagoolooikpabaaGreatDoor
