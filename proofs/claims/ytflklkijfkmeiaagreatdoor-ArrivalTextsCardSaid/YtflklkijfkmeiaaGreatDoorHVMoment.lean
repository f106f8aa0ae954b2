/- The order of samples; the package merges something. No condition. -/
import Derived.Test.YtflklkijfkmeiaaGreatDoorHCoreD
import Derived.Test.YtflklkijfkmeiaaGreatDoorHCoreDrawS
import Derived.Test.YtflklkijfkmeiaaGreatDoorHVGA
import Derived.Test.YtflklkijfkmeiaaGreatDoorHVGB
namespace Go.Proofs.YtflklkijfkmeiaaGreatDoor
open Go Go.RowKit
set_option maxRecDepth 100000
set_option linter.all false
set_option maxHeartbeats 1000000
variable {H : Hp} {K : AV → Hp → Prop}
theorem cmpOr_a (l : List Int) (hl : l.length ≤ 1000000) (hk : K (.c (.int .i64 (firstE l))) H) : ACalls Tryz.prog 221 [.c (.lst 1 (l.map encI))] H K := by
  refine acalls Tryz.func221 rfl (by kernel_rfl) (by simp (disch := first | omega | (simp only [go_sem]; first | done | omega)) only [go_sem]) (fun hH => ?_)
  simp (disch := first | omega | (simp only [go_sem]; first | done | omega)) only [go_sem]
  refine AWp.loop (H.length) [3, 6, 7] [8] (fun (k : Nat) => k ≤ l.length ∧ firstE (l.drop k) = firstE l) (fun (k : Nat) => [(8, (.c (.int .i64 k)))]) (fun (k : Nat) => H) (fun (k : Nat) => l.length - k) (by kernel_rfl) (fun _ => rfl) (by kernel_rfl) (by first | (simp; done) | omega) (by first | (simp; done) | (simp; omega) | omega) kl ?_ (fun k hk1 _ _ => ?_)
  · exact Next.mk 0 (by simp) wk
  · simp (disch := first | omega | (simp only [go_sem]; first | done | omega)) only [go_sem, *]
    repeat' (first | ((first | refine acond_d ?_ ?_ | refine acond_b ?_ ?_ | refine ag_d ?_ ?_ | refine ag_n ?_ ?_ | refine ag_bt ?_ ?_ | refine ag_bf ?_ ?_) <;> intro c <;> try simp (disch := first | omega | (simp only [go_sem]; first | done | omega)) only [go_sem, c]) | ((first | refine w_draw (by kernel_rfl) (by decide +kernel) ?_) <;> try simp (disch := first | omega | (simp only [go_sem]; first | done | omega)) only [go_sem]))
    · have := firstE_drop l k (by omega)
      exact Next.mk (k + 1) ⟨⟨by omega, by grind⟩, by omega⟩ wk
    · have := firstE_drop l k (by omega)
      (first | refine Ret.sameE (Nat.le_refl _) (by assumption) ?_ | refine Ret.dropE (by assumption) (Nat.le_refl _) (by assumption) (by simp [AV.ok, AV.ok1, AC.ok]) ?_) <;> (first | rfl | (simp only [AV.c.injEq, AC.bool.injEq]; rw [Bool.eq_iff_iff]; simp only [Bool.not_eq_true', decide_eq_true_eq, decide_eq_false_iff_not, Bool.and_eq_true, Bool.or_eq_true]; omega) | grind | (simp [*]; done) | (simp [*]; omega))
    · have : l.drop k = [] := List.drop_eq_nil_of_le (by omega)
      have h0 : firstE l = 0 := by rw [← hk1.2, this]; rfl
      (first | refine Ret.sameE (Nat.le_refl _) (by assumption) ?_ | refine Ret.dropE (by assumption) (Nat.le_refl _) (by assumption) (by simp [AV.ok, AV.ok1, AC.ok]) ?_) <;> (first | rfl | (simp only [AV.c.injEq, AC.bool.injEq]; rw [Bool.eq_iff_iff]; simp only [Bool.not_eq_true', decide_eq_true_eq, decide_eq_false_iff_not, Bool.and_eq_true, Bool.or_eq_true]; omega) | grind | (simp [*]; done) | (simp [*]; omega))
def cmpI (x y : Int) : Int := if x < y then -1 else if y < x then 1 else 0
theorem cmpOr_lit (a b c : Int) {i ty n : Nat} {els : List (List AC)} {own : Bool} (hi : H[i]? = some (.row ty 1 els own)) (he : els = [[.int .i64 a], [.int .i64 b], [.int .i64 c]]) (hn : n = 3) (hk : K (.c (.int .i64 (firstE [a, b, c]))) (H.set i .dead)) : ACalls Tryz.prog 221 [.c (.sl (some (i, 0)) n)] H K := by
  subst he hn
  exact ACalls.lit hi (by simp [pureL, AC.pure]) (args' := [.c (.lst 1 ([a, b, c].map encI))]) (by simp [AV.frz1, AC.frz, encI]) (cmpOr_a [a, b, c] (by simp) hk)
end Go.Proofs.YtflklkijfkmeiaaGreatDoor
