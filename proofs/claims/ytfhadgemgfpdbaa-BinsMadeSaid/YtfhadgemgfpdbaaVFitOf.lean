/- The document's answer to Fit: what it computes. No condition. -/
import Derived.Test.YtfhadgemgfpdbaaVFit2
namespace Go.Proofs.Ytfhadgemgfpdbaa
open Go Go.RowKit
set_option maxRecDepth 100000
set_option linter.all false
variable {H : Hp} {K : AV → Hp → Prop}
theorem cloneRowL_a {i ty n : Nat} {own : Bool} (l : List Level) (hi : H[i]? = some (.row ty 2 (l.map encL) own)) (hn : n = l.length) (h0 : 0 < l.length) (hl : l.length ≤ 1099511627776) (hk : K (.c (.sl (some (H.length, 0)) n)) (H ++ [.row 31 2 (l.map encL) true])) : ACalls Try.prog 37 [.c (.sl (some (i, 0)) n)] H K := by
  subst hn
  have hlt := getElem?_lt hi
  cases l with
  | nil => simp at h0
  | cons x xs =>
    simp only [List.length_cons] at hl h0
    refine acalls Try.func37 rfl (by kernel_rfl) (by simp (disch := first | omega | (simp only [go_sem]; first | done | omega)) only [go_sem]) (fun hH => ?_)
    simp (disch := first | omega | (simp only [go_sem]; first | done | omega)) only [go_sem]
    refine app_sl ?_
    simp only [List.map_cons, encL] at hi
    simp (disch := first | omega | (simp only [go_sem]; first | done | omega)) only [go_sem, hi]
    refine Ret.pick [1] hH (Nat.le_refl _) (L := [.row 31 2 ((x :: xs).map encL) true]) rfl (by simp) (by simp [AObj.pureO, pureL, encL, AC.pure]) (v' := .c (.sl (some (H.length, 0)) (xs.length + 1))) ?_ (by simp [AV.ok, AV.ok1, AC.ok]) (by simpa using hk)
    simp [AV.ren, AV.ren1, AC.ren, pickS]
theorem fitOf1_a (b4 b5 b8 b9 i k n : Nat) (rate quota keep : Int) (o : List Level) {ty4 ty5 ty8 ty9 ty : Nat} (h4 : H[b4]? = some (.row ty4 1 [[.int .i64 rate]] true)) (h5 : H[b5]? = some (.row ty5 1 [[.int .i64 quota]] true)) (h8 : H[b8]? = some (.row ty8 1 [[.sl (some (i, 0)) n]] true))
    (h9 : H[b9]? = some (.row ty9 1 [[.int .i64 k]] true)) (hi : H[i]? = some (.row ty 2 (o.map encL) true)) (hn : n = o.length) (hko : k < o.length) (ho : o.length ≤ 6) (hoo : ∀ y ∈ o, y.ok) (hm1 : 1 ≤ keep) (hm2 : keep ≤ 345686400000) (hr : 1 ≤ rate) (hr2 : rate ≤ 1000000)
    (hk : K (.c (.bool (decide (costs (o.set k ⟨o[k].step, keep⟩) rate ≤ quota)))) H) : ACalls Try.prog 43 [(.c (.int .i64 keep)), .c (.ptr (some (b8, 0, 0))), .c (.ptr (some (b9, 0, 0))), .c (.ptr (some (b4, 0, 0))), .c (.ptr (some (b5, 0, 0)))] H K := by
  subst hn
  have l4 := getElem?_lt h4; have l5 := getElem?_lt h5; have l8 := getElem?_lt h8; have l9 := getElem?_lt h9; have li := getElem?_lt hi
  have hx := hoo o[k] (List.getElem_mem hko)
  have hset : (o.map encL).set k [.int .i64 o[k].step, .int .i64 keep] = (o.set k ⟨o[k].step, keep⟩).map encL := by rw [List.map_set]; rfl
  have hok := set_ok hoo k ⟨o[k].step, keep⟩ ⟨hx.1, hx.2.1, hm1, hm2⟩
  refine acalls Try.func43 rfl (by kernel_rfl) (by simp (disch := first | omega | (simp only [go_sem]; first | done | omega)) only [go_sem]) (fun hH => ?_)
  simp (disch := first | omega | (simp only [go_sem]; first | done | omega)) only [go_sem, h8]
  repeat' (first | ((first | refine acond_d ?_ ?_ | refine acond_b ?_ ?_ | refine ag_d ?_ ?_ | refine ag_n ?_ ?_ | refine ag_bt ?_ ?_ | refine ag_bf ?_ ?_ | refine agt_d ?_ ?_ | refine agt_n ?_ ?_ | refine agt_bt ?_ ?_ | refine agt_bf ?_ ?_) <;> intro c <;> try simp (disch := first | omega | (simp only [go_sem]; first | done | omega)) only [go_sem, c, h4, h5, h8, h9, hi, hset]) | ((first | refine w_draw (by kernel_rfl) (by decide +kernel) ?_ | refine cloneRowL_a o hi rfl (by omega) (by omega) ?_ | refine costRowR_a (o.set k ⟨o[k].step, keep⟩) rate (by first | exact at0 (by simp) | exact at1 (by simp) | exact at2 (by simp) | exact at3 (by simp) | exact at4 (by simp) | exact at5 (by simp) | assumption) (by simp) hok (by simpa using ho) hr hr2 ?_ | refine w_tree (.one 0 (.one 1 (.two 2 (.one 3 (.one 4 (.one 5 .done))) 3 (.one 2 (.one 4 (.one 5 .done)))))) (by kernel_rfl) (by decide +kernel) ?_) <;> try simp (disch := first | omega | (simp only [go_sem]; first | done | omega)) only [go_sem, h4, h5, h8, h9, hi, hset]) | (refine And.intro ?_ ?_ <;> try simp (disch := first | omega | (simp only [go_sem]; first | done | omega)) only [go_sem, h4, h5, h8, h9, hi, hset]))
  all_goals (first | refine Ret.sameE (Nat.le_refl _) (by assumption) ?_ | refine Ret.dropE (by assumption) (Nat.le_refl _) (by assumption) (by simp [AV.ok, AV.ok1, AC.ok]) ?_) <;> (first | rfl | (simp only [AV.c.injEq, AC.bool.injEq]; rw [Bool.eq_iff_iff]; simp only [Bool.not_eq_true', decide_eq_true_eq, decide_eq_false_iff_not, Bool.and_eq_true, Bool.or_eq_true]; omega) | grind | (simp [*]; done) | (simp [*]; omega))
end Go.Proofs.Ytfhadgemgfpdbaa
