/- Samples sorted: slices.SortFunc, of at most 14 elements. Condition: the comparison is pure, and a strict weak order. -/
import Derived.Test.YtmmjphncnnmdaaaHVPdqF
namespace Go.Proofs.Ytmmjphncnnmdaaa
open Go Go.RowKit
set_option maxRecDepth 100000
set_option linter.all false
set_option maxHeartbeats 1000000
variable {H : Hp} {K : AV → Hp → Prop}
theorem to14 {n : Nat} (h : n ≤ 14) : n = 0 ∨ n = 1 ∨ n = 2 ∨ n = 3 ∨ n = 4 ∨ n = 5 ∨ n = 6 ∨ n = 7 ∨ n = 8 ∨ n = 9 ∨ n = 10 ∨ n = 11 ∨ n = 12 ∨ n = 13 ∨ n = 14 := by omega
theorem bl_le {n : Nat} (h : n ≤ 14) : Go.Sort.bitsLen n ≤ 4 ∧ n ≤ Go.Sort.bitsLen n + 10 := by
  rcases to14 h with rfl | rfl | rfl | rfl | rfl | rfl | rfl | rfl | rfl | rfl | rfl | rfl | rfl | rfl | rfl <;> decide +kernel
theorem len64n_a {n : Nat} (h : n ≤ 14) (hk : K (.c (.int .i64 (Go.Sort.bitsLen n))) H) : ACalls Try.prog 106 [.c (.int .u64 n)] H K := by
  obtain ⟨b1, b2⟩ := bl_le h
  refine acalls Try.func106 rfl (by kernel_rfl) (by simp (disch := first | omega | (simp only [go_sem]; first | done | omega)) only [go_sem]) (fun hH => ?_)
  simp (disch := first | omega | (simp only [go_sem]; first | done | omega)) only [go_sem]
  refine aIf_val (v' := .c (.int .u8 (Go.Sort.bitsLen n : Nat))) ?_ ?_ ?_
  · rcases to14 h with rfl | rfl | rfl | rfl | rfl | rfl | rfl | rfl | rfl | rfl | rfl | rfl | rfl | rfl | rfl <;> decide +kernel
  · rcases to14 h with rfl | rfl | rfl | rfl | rfl | rfl | rfl | rfl | rfl | rfl | rfl | rfl | rfl | rfl | rfl <;> exact congrArg (fun z => AV.c (.int .u8 z)) (by decide +kernel)
  simp (disch := first | omega | (simp only [go_sem]; first | done | omega)) only [go_sem]
  exact Ret.same (Nat.le_refl _) hk
theorem lenn_a {n : Nat} (h : n ≤ 14) (hk : K (.c (.int .i64 (Go.Sort.bitsLen n))) H) : ACalls Try.prog 85 [.c (.int .u64 n)] H K := by
  refine acalls Try.func85 rfl (by kernel_rfl) (by simp (disch := first | omega | (simp only [go_sem]; first | done | omega)) only [go_sem]) (fun hH => ?_)
  simp (disch := first | omega | (simp only [go_sem]; first | done | omega)) only [go_sem]
  refine len64n_a h ?_
  simp (disch := first | omega | (simp only [go_sem]; first | done | omega)) only [go_sem]
  exact Ret.same (Nat.le_refl _) hk
/-- what slices.SortFunc makes of a list -/
def pdqG (lt : Smp → Smp → Bool) (l : List Smp) : List Smp := (Go.Sort.pdq lt l.toArray 0 l.length (Go.Sort.bitsLen l.length) true true).toList
theorem sortFunc_a {f : FuncId} {lt : Smp → Smp → Bool} {P : Smp → Prop} (hS : Go.Sort.SWO lt) (hc : CmpA f lt P) {i n : Nat} (l : List Smp) (hi : H[i]? = some (.row 46 3 (l.map encS) true)) (hn : n = l.length) (h14 : n ≤ 14) (hP : ∀ x ∈ l, P x)
    (hk : K (.tup []) (H.set i (.row 46 3 ((pdqG lt l).map encS) true))) :
    ACalls Try.prog 53 [.c (.sl (some (i, 0)) n), .c (.fn f [] [])] H K := by
  obtain ⟨b1, b2⟩ := bl_le h14
  have hi2 : H[i]? = some (rowA l.toArray) := hi
  have hPa : ∀ k, k < l.toArray.size → P l.toArray[k]! := by
    intro k hk
    rw [getElem!_pos l.toArray k hk]
    exact hP _ (by simp)
  refine acalls Try.func53 rfl (by kernel_rfl) (by simp (disch := first | omega | (simp only [go_sem]; first | done | omega)) only [go_sem]) (fun hH => ?_)
  simp (disch := first | omega | (simp only [go_sem]; first | done | omega)) only [go_sem]
  have hw : IntKind.u64.wrap (n : Int) = n := by
    simp only [IntKind.wrap, IntKind.signed, IntKind.bits, Bool.false_and, Bool.false_eq_true, ↓reduceIte]
    omega
  rw [hw]
  refine lenn_a h14 ?_
  simp (disch := first | omega | (simp only [go_sem]; first | done | omega)) only [go_sem]
  refine pdq_a (a := 0) (b := n) hS hc l.toArray hi2 (by simpa using hn) (by omega) (by simp; omega) (by omega) (by omega) (by omega) (by simp; omega) hPa ?_
  subst hn
  simp (disch := first | omega | (simp only [go_sem]; first | done | omega)) only [go_sem]
  exact Ret.same (by simp) hk
end Go.Proofs.Ytmmjphncnnmdaaa
