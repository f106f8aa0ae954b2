/- The document's overridden fixes. No condition. -/
import Derived.Test.YtgcjenfdndhhpaaGreatHVFixC
namespace Go.Proofs.YtgcjenfdndhhpaaGreat
open Go Go.RowKit
set_option maxRecDepth 100000
set_option linter.all false
set_option maxHeartbeats 1000000
variable {H : Hp} {K : AV → Hp → Prop}
def ovrB (x y : Fix) (mid : List Fix) : Bool := if x.kind ≠ 3 then decide (y.kind ≠ 3) && tchB y (if x.kind = 2 then x.t else x.s.t) else if y.kind ≠ 3 ∨ x.w1 < y.w1 ∨ y.w2 < x.w2 ∨ y.q < x.q then false else !(mid.any fun z => decide (z.kind = 1) && tchB x z.s.t)
theorem ovFn_a (z x : Fix) {i ty : Nat} {own : Bool} (hi : H[i]? = some (.row ty 11 [encF x] own)) (hk : K (.c (.bool (decide (z.kind = 1) && tchB x z.s.t))) H) : ACalls Tryz.prog 164 [.agg (encF z), .c (.ptr (some (i, 0, 0)))] H K := by
  have hilt := getElem?_lt hi
  by_cases k1 : z.kind = 1
  · rw [decide_eq_true k1, Bool.true_and] at hk
    refine acalls Tryz.func164 rfl (by kernel_rfl) (by simp (disch := first | omega | (simp only [go_sem]; first | done | omega)) only [go_sem]) (fun hH => ?_)
    simp (disch := first | omega | (simp only [go_sem]; first | done | omega)) only [go_sem, hi, k1]
    refine touches_a x z.s.t ?_
    simp (disch := first | omega | (simp only [go_sem]; first | done | omega)) only [go_sem]
    exact Ret.drop hH (Nat.le_refl _) trivial hk
  · rw [decide_eq_false k1, Bool.false_and] at hk
    refine acalls Tryz.func164 rfl (by kernel_rfl) (by simp (disch := first | omega | (simp only [go_sem]; first | done | omega)) only [go_sem]) (fun hH => ?_)
    simp (disch := first | omega | (simp only [go_sem]; first | done | omega)) only [go_sem, hi, k1]
    exact Ret.drop hH (Nat.le_refl _) trivial hk
theorem ovCont_a (mid : List Fix) (x : Fix) {L : List (List AC)} {j ty : Nat} {own : Bool} {cs : List AC} (hL : L = mid.map encF) (hm : mid.length ≤ 1000000) (hj : H[j]? = some (.row ty 11 [cs] own)) (hcs : cs = encF x) (hk : K (.c (.bool (mid.any fun z => decide (z.kind = 1) && tchB x z.s.t))) H) : ACalls Tryz.prog 111 [.c (.lst 11 L), .c (.fn 164 [] [(j, 0, 0)])] H K := by
  subst hL
  subst hcs
  have hjl := getElem?_lt hj
  exact contLstFx_a 164 [(j, 0, 0)] (fun z => decide (z.kind = 1) && tchB x z.s.t) (by kernel_rfl) (by intro a b c h; simp only [List.mem_singleton, Prod.mk.injEq] at h; omega) mid (fun z K hz hk => ovFn_a z x hj hk) (by omega) hk
theorem overrides_a (l : List Fix) (i k : Nat) (x y : Fix) (hik : i < k) (hkl : k < l.length) (hx : x = l[i]'(by omega)) (hy : y = l[k]) (hl : l.length ≤ 1000000) (hk : K (.c (.bool (ovrB x y ((l.drop (i + 1)).take (k - (i + 1)))))) H) : ACalls Tryz.prog 123 [.c (.lst 11 (l.map encF)), (.c (.int .i64 i)), (.c (.int .i64 k))] H K := by
  have hil : i < l.length := by omega
  have hsl : ∀ a b : Nat, a = k - (i + 1) → b = i + 1 → List.take a (List.drop b (l.map encF)) = ((l.drop (i + 1)).take (k - (i + 1))).map encF := by
    rintro a b rfl rfl
    rw [List.map_take, List.map_drop]
  have hml : ((l.drop (i + 1)).take (k - (i + 1))).length ≤ 1000000 := by rw [List.length_take, List.length_drop]; omega
  have hki : (i : Int) + 1 ≤ k := by omega
  have hkl2 : (k : Int) ≤ l.length := by omega
  generalize (l.drop (i + 1)).take (k - (i + 1)) = mid at *
  refine acalls Tryz.func123 rfl (by kernel_rfl) (by simp (disch := first | omega | (simp only [go_sem]; first | done | omega)) only [go_sem]) (fun hH => ?_)
  simp (disch := first | omega | (simp only [go_sem]; first | done | omega)) only [go_sem]
  repeat' (first | ((first | refine acond_d ?_ ?_ | refine acond_b ?_ ?_ | refine ag_d ?_ ?_ | refine ag_n ?_ ?_ | refine ag_bt ?_ ?_ | refine ag_bf ?_ ?_ | refine agt_d ?_ ?_ | refine agt_n ?_ ?_ | refine agt_bt ?_ ?_ | refine agt_bf ?_ ?_) <;> intro c <;> try simp (disch := first | omega | (simp only [go_sem]; first | done | omega)) only [go_sem, c, hil, hkl, ← hx, ← hy]) | ((first | refine w_draw (by kernel_rfl) (by decide +kernel) ?_ | refine touches_a _ _ ?_ | refine ovCont_a mid x (hsl _ _ (by omega) (by omega)) hml (by first | exact at0 (by omega) | exact at1 (by omega) | exact at2 (by omega) | exact at3 (by omega)) (by grind [encF]) ?_ | refine w_tree (.one 0 (.one 1 (.one 2 (.one 3 (.one 4 (.one 5 (.three 6 (.three 7 (.two 8 (.one 9 (.one 10 (.one 11 .done))) 9 (.one 8 (.one 10 (.one 11 .done)))) 8 (.two 7 (.one 9 (.one 10 (.one 11 .done))) 9 (.two 7 (.one 10 (.one 11 .done)) 10 (.one 7 (.one 11 .done)))) 9 (.two 7 (.one 8 (.one 10 (.one 11 .done))) 8 (.two 7 (.one 10 (.one 11 .done)) 10 (.one 7 (.one 11 .done))))) 8 (.two 6 (.two 7 (.one 9 (.one 10 (.one 11 .done))) 9 (.two 7 (.one 10 (.one 11 .done)) 10 (.one 7 (.one 11 .done)))) 9 (.two 6 (.two 7 (.one 10 (.one 11 .done)) 10 (.one 7 (.one 11 .done))) 10 (.one 6 (.one 7 (.one 11 .done))))) 9 (.two 6 (.two 7 (.one 8 (.one 10 (.one 11 .done))) 8 (.two 7 (.one 10 (.one 11 .done)) 10 (.one 7 (.one 11 .done)))) 8 (.two 6 (.two 7 (.one 10 (.one 11 .done)) 10 (.one 7 (.one 11 .done))) 10 (.one 6 (.one 7 (.one 11 .done)))))))))))) (by kernel_rfl) (by decide +kernel) ?_) <;> try simp (disch := first | omega | (simp only [go_sem]; first | done | omega)) only [go_sem, hil, hkl, ← hx, ← hy]) | (refine And.intro ?_ ?_ <;> try simp (disch := first | omega | (simp only [go_sem]; first | done | omega)) only [go_sem, hil, hkl, ← hx, ← hy]))
  all_goals first
    | (first | refine Ret.sameE (Nat.le_refl _) (by assumption) ?_ | refine Ret.dropE (by assumption) (Nat.le_refl _) (by assumption) (by simp [AV.ok, AV.ok1, AC.ok]) ?_) <;> grind [ovrB]
end Go.Proofs.YtgcjenfdndhhpaaGreat
