/- Whether data is kept: the program; what holds hold: the document's answer. Condition: few holds, numbers as those of levels. -/
import Derived.Test.YtkmkkjlfnobciaaGreatVUntil
namespace Go.Proofs.YtkmkkjlfnobciaaGreat
open Go Go.RowKit
set_option maxRecDepth 100000
set_option linter.all false
set_option maxHeartbeats 1000000
variable {H : Hp} {K : AV → Hp → Prop}
def keepB (x : Level) (h : List Hold) (m t : Int) : Bool := decide (t ≤ untilF x.keep h (ivl x m).1 (ivl x m).2)
theorem ivl_bd (x : Level) (m : Int) (hx : x.ok) (hm : 0 ≤ m) (hm2 : m ≤ 400000000000) : 0 ≤ (ivl x m).1 ∧ (ivl x m).1 ≤ m ∧ m < (ivl x m).2 ∧ (ivl x m).2 ≤ 500000000000 := by
  obtain ⟨h0, h1, h2, h3⟩ := hx
  unfold ivl
  split
  · dsimp only; omega
  · rename_i hs
    have t0 : 0 ≤ m / x.step := Int.ediv_nonneg (by omega) (by omega)
    have t1 : m / x.step * x.step ≤ m := Int.ediv_mul_le _ hs
    have t2 : 0 ≤ m / x.step * x.step := Int.mul_nonneg t0 (by omega)
    have t3 : m < m / x.step * x.step + x.step := by have := Int.emod_lt_of_pos m (b := x.step) (by omega); have := Int.emod_add_ediv_mul m x.step; omega
    dsimp only; omega
theorem keeps_a (x : Level) (h : List Hold) (m t : Int) (hx : x.ok) (hlen : h.length ≤ 12) (hn : ∀ y ∈ h, y.near) (hm : 0 ≤ m) (hm2 : m ≤ 400000000000) (hk : K (.c (.bool (keepB x h m t))) H) : ACalls Tryz.prog 59 [.agg (encL x), .c (.lst 6 (h.map encH)), (.c (.int .i64 m)), (.c (.int .i64 t))] H K := by
  have hb := ivl_bd x m hx hm hm2
  obtain ⟨h0, h1, h2, h3⟩ := hx
  refine acalls Tryz.func59 rfl (by kernel_rfl) (by simp (disch := first | omega | (simp only [go_sem]; first | done | omega)) only [go_sem]) (fun hH => ?_)
  simp (disch := first | omega | (simp only [go_sem]; first | done | omega)) only [go_sem]
  repeat' (first | ((first | refine acond_d ?_ ?_ | refine acond_b ?_ ?_ | refine ag_d ?_ ?_ | refine ag_n ?_ ?_ | refine ag_bt ?_ ?_ | refine ag_bf ?_ ?_ | refine agt_d ?_ ?_ | refine agt_n ?_ ?_ | refine agt_bt ?_ ?_ | refine agt_bf ?_ ?_) <;> intro c <;> try simp (disch := first | omega | (simp only [go_sem]; first | done | omega)) only [go_sem, c]) | ((first | refine w_draw (by kernel_rfl) (by decide +kernel) ?_ | refine interval_a x m h0 h1 (by omega) (by omega) hm ?_ | refine until_a x h _ _ hlen hn (by omega) (by omega) ?_ | refine w_tree (.one 0 (.one 2 (.one 3 (.one 4 (.two 1 (.one 5 (.one 6 (.one 7 (.one 8 .done)))) 5 (.one 1 (.one 6 (.one 7 (.one 8 .done))))))))) (by kernel_rfl) (by decide +kernel) ?_) <;> try simp (disch := first | omega | (simp only [go_sem]; first | done | omega)) only [go_sem]) | (refine And.intro ?_ ?_ <;> try simp (disch := first | omega | (simp only [go_sem]; first | done | omega)) only [go_sem]))
  all_goals exact Ret.drop hH (Nat.le_refl _) (by simp [AV.ok, AV.ok1, AC.ok]) hk
/-- a hold that holds data of a tag and of some moment of a time, at a time -/
def hold1 (tag : ByteArray) (w0 w1 t : Int) (x : Hold) : Bool := decide ((x.tag = noS ∨ x.tag = tag) ∧ x.t0 < w1 ∧ w0 < x.t1 ∧ x.made ≤ t ∧ t < x.ends)
def heldB (h : List Hold) (tag : ByteArray) (w0 w1 t : Int) : Bool := h.any (hold1 tag w0 w1 t)
theorem heldAt1_a {i j k : Nat} {ty ty2 ty3 : Nat} {o o2 o3 : Bool} (x : Hold) (tag : ByteArray) (w0 w1 t : Int) (hi : H[i]? = some (.row ty 1 [[.str tag]] o)) (hj : H[j]? = some (.row ty2 2 [[.int .i64 w0, .int .i64 w1]] o2)) (hq : H[k]? = some (.row ty3 1 [[.int .i64 t]] o3)) (hk : K (.c (.bool (hold1 tag w0 w1 t x))) H) : ACalls Tryz.prog 111 [.agg (encH x), .c (.ptr (some (i, 0, 0))), .c (.ptr (some (j, 0, 0))), .c (.ptr (some (k, 0, 0)))] H K := by
  have hi1 := getElem?_lt hi
  have hj1 := getElem?_lt hj
  have hk1 := getElem?_lt hq
  refine acalls Tryz.func111 rfl (by kernel_rfl) (by simp (disch := first | omega | (simp only [go_sem]; first | done | omega)) only [go_sem]) (fun hH => ?_)
  simp (disch := first | omega | (simp only [go_sem]; first | done | omega)) only [go_sem, hi, hj, hq]
  repeat' (first | ((first | refine acond_d ?_ ?_ | refine acond_b ?_ ?_ | refine ag_d ?_ ?_ | refine ag_n ?_ ?_ | refine ag_bt ?_ ?_ | refine ag_bf ?_ ?_) <;> intro c <;> try simp (disch := first | omega | (simp only [go_sem]; first | done | omega)) only [go_sem, c, hi, hj, hq]) | ((first | refine w_draw (by kernel_rfl) (by decide +kernel) ?_) <;> try simp (disch := first | omega | (simp only [go_sem]; first | done | omega)) only [go_sem, hi, hj, hq]))
  all_goals exact Ret.dropE hH (Nat.le_refl _) hk trivial (by simp only [AV.c.injEq, AC.bool.injEq, hold1]; rw [Bool.eq_iff_iff]; simp only [decide_eq_true_eq, Bool.false_eq_true, false_iff]; grind)
theorem heldAt_a (h : List Hold) (tag : ByteArray) (w0 w1 t : Int) (hlen : h.length ≤ 1000) (hk : K (.c (.bool (heldB h tag w0 w1 t))) H) : ACalls Tryz.prog 81 [.c (.lst 6 (h.map encH)), (.c (.str tag)), .agg [.int .i64 w0, .int .i64 w1], (.c (.int .i64 t))] H K := by
  refine acalls Tryz.func81 rfl (by kernel_rfl) (by simp (disch := first | omega | (simp only [go_sem]; first | done | omega)) only [go_sem]) (fun hH => ?_)
  simp (disch := first | omega | (simp only [go_sem]; first | done | omega)) only [go_sem]
  refine containsH_a 111 [(H.length, 0, 0), (H.length + 1, 0, 0), (H.length + 2, 0, 0)] (hold1 tag w0 w1 t) (by kernel_rfl) (by simp; omega) h (fun x K _ hK => heldAt1_a x tag w0 w1 t (by first | exact at0 (by simp) | exact at1 (by simp) | exact at2 (by simp) | exact at3 (by simp) | exact at4 (by simp) | exact at5 (by simp) | exact atG 6 (by simp) rfl | exact atG 7 (by simp) rfl | exact atG 8 (by simp) rfl | exact atG 9 (by simp) rfl | exact atG 10 (by simp) rfl | assumption) (by first | exact at0 (by simp) | exact at1 (by simp) | exact at2 (by simp) | exact at3 (by simp) | exact at4 (by simp) | exact at5 (by simp) | exact atG 6 (by simp) rfl | exact atG 7 (by simp) rfl | exact atG 8 (by simp) rfl | exact atG 9 (by simp) rfl | exact atG 10 (by simp) rfl | assumption) (by first | exact at0 (by simp) | exact at1 (by simp) | exact at2 (by simp) | exact at3 (by simp) | exact at4 (by simp) | exact at5 (by simp) | exact atG 6 (by simp) rfl | exact atG 7 (by simp) rfl | exact atG 8 (by simp) rfl | exact atG 9 (by simp) rfl | exact atG 10 (by simp) rfl | assumption) hK) (by omega) ?_
  simp (disch := first | omega | (simp only [go_sem]; first | done | omega)) only [go_sem]
  exact Ret.drop hH (Nat.le_refl _) (by simp [AV.ok, AV.ok1, AC.ok]) hk
theorem heldOf_a (h : List Hold) (tag : ByteArray) (m t : Int) (hm : -1000000000000 ≤ m) (hm2 : m ≤ 1000000000000) (hlen : h.length ≤ 1000) (hk : K (.c (.bool (heldB h tag m (m + 1) t))) H) : ACalls Tryz.prog 24 [.c (.lst 6 (h.map encH)), (.c (.str tag)), (.c (.int .i64 m)), (.c (.int .i64 t))] H K := by
  refine acalls Tryz.func24 rfl (by kernel_rfl) (by simp (disch := first | omega | (simp only [go_sem]; first | done | omega)) only [go_sem]) (fun hH => ?_)
  simp (disch := first | omega | (simp only [go_sem]; first | done | omega)) only [go_sem]
  refine heldAt_a h tag m (m + 1) t hlen ?_
  simp (disch := first | omega | (simp only [go_sem]; first | done | omega)) only [go_sem]
  exact Ret.same (Nat.le_refl _) hk
end Go.Proofs.YtkmkkjlfnobciaaGreat
