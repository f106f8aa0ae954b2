/- An expression without tags: Constant in the program, ConstantOf in the document. No condition. -/
import Derived.Test.YtlnfiflbpmicgaaGreatDoorHVEwd
import Derived.Test.YtlnfiflbpmicgaaGreatDoorHVTgsQ
set_option linter.all false
namespace Go.Proofs.YtlnfiflbpmicgaaGreatDoor
open Go Go.RowKit
set_option maxRecDepth 100000
set_option maxHeartbeats 4000000
variable {H : Hp} {K : AV → Hp → Prop}
theorem lookNo_a (t : ByteArray) (m : Int) (hk : K (.agg (encV badV)) H) : ACalls Tryz.prog 66 [(.c (.str t)), (.c (.int .i64 m))] H K := by
  refine acalls Tryz.func66 rfl (by kernel_rfl) (by simp (disch := first | omega | (simp only [go_sem]; try omega)) only [go_sem]) (fun hH => ?_)
  simp (disch := first | omega | (simp only [go_sem]; try omega)) only [go_sem]
  refine badE_a ?_
  simp (disch := first | omega | (simp only [go_sem]; try omega)) only [go_sem]
  exact Ret.drop hH (Nat.le_refl _) (by simp [AV.ok, AV.ok1, AC.ok]) hk
theorem lookNo : LookOk H 66 [] [] (lkF []) := ⟨by kernel_rfl, by simp, fun G K x m h1 h2 h3 hk => lookNo_a (tB x) m hk⟩
def cnS (e : Ex) : Smp := finV (evP (lkF []) 0 e) 0
def cnF (e : Ex) : Int × Bool := if 0 < (tagsE e).length ∨ (cnS e).q ≠ 0 then (0, false) else ((cnS e).v, true)
theorem constant_a (l : List UInt8) (hl : l.length ≤ 1000000) (hne : ∀ a c, parF l = .error (a, c) → c ≠ 0) (hk1 : ∀ e, parF l = .ok e → K (.tup [(.c (.int .i64 ((cnF e).1))), (.c (.bool ((cnF e).2))), (.c (.int .i64 0))]) H) (hk2 : ∀ a c, parF l = .error (a, c) → K (.tup [(.c (.int .i64 0)), (.c (.bool false)), (.c (.int .i64 c))]) H) : ACalls Tryz.prog 13 [(.c (.str (tB l)))] H K := by
  have hent : entersB Tryz.prog 66 = true := by kernel_rfl
  refine acalls Tryz.func13 rfl (by kernel_rfl) (by simp (disch := first | omega | (simp only [go_sem]; try omega)) only [go_sem]) (fun hH => ?_)
  simp (disch := first | omega | (simp only [go_sem]; try omega)) only [go_sem, hent]
  refine parse_a l hl (fun e he => ?_) (fun a c he => ?_)
  · have hk := hk1 e he
    have hsz := par_sz he
    simp (disch := first | omega | (simp only [go_sem]; try omega)) only [go_sem, hent]
    refine eval_a (look := lkF []) (fun x m => lookP_ok (by rfl) _ _) 0 (by omega) 1000 e lookNo (by omega) (par_good he) ?_
    simp (disch := first | omega | (simp only [go_sem]; try omega)) only [go_sem]
    refine finalE_a _ _ ?_
    unfold cnF at hk
    rw [show finV (evP (lkF []) 0 e) 0 = cnS e from rfl]
    generalize cnS e = v at *
    simp (disch := first | omega | (simp only [go_sem]; try omega)) only [go_sem]
    refine tagsN_a e (by omega) (par_good he) ?_
    generalize tagsE e = M at *
    by_cases h1 : 0 < M.length
    · rw [if_pos (.inl h1)] at hk
      simp (disch := first | omega | (simp only [go_sem]; try omega)) only [go_sem, h1]
      exact Ret.drop hH (Nat.le_refl _) (by simp [AV.ok, AV.ok1, AC.ok]) hk
    · by_cases h2 : v.q = 0
      · rw [if_neg (fun h => h.elim h1 fun h => h h2)] at hk
        simp (disch := first | omega | (simp only [go_sem]; try omega)) only [go_sem, h1, h2]
        exact Ret.drop hH (Nat.le_refl _) (by simp [AV.ok, AV.ok1, AC.ok]) hk
      · rw [if_pos (.inr h2)] at hk
        simp (disch := first | omega | (simp only [go_sem]; try omega)) only [go_sem, h1, h2]
        exact Ret.drop hH (Nat.le_refl _) (by simp [AV.ok, AV.ok1, AC.ok]) hk
  · have hk := hk2 a c he
    have hc := hne a c he
    simp (disch := first | omega | (simp only [go_sem]; try omega)) only [go_sem, hc]
    exact Ret.same (Nat.le_refl _) hk
theorem constantOf_a (l : List UInt8) (hl : l.length ≤ 1000000) (e : Ex) (he : parF l = .ok e) (hk : ∀ v : Int, ((cnF e).2 = true → v = (cnF e).1) → K (.tup [(.c (.int .i64 v)), (.c (.bool ((cnF e).2)))]) H) : ACalls Tryz.prog 21 [(.c (.str (tB l)))] H K := by
  refine acalls Tryz.func21 rfl (by kernel_rfl) (by simp (disch := first | omega | (simp only [go_sem]; try omega)) only [go_sem]) (fun hH => ?_)
  simp (disch := first | omega | (simp only [go_sem]; try omega)) only [go_sem]
  refine tagsIn_a l hl e he ?_
  unfold cnF at hk
  by_cases h1 : 0 < (tagsE e).length
  · rw [if_pos (.inl h1)] at hk
    generalize tagsE e = M at *
    simp (disch := first | omega | (simp only [go_sem]; try omega)) only [go_sem, h1]
    exact Ret.same (Nat.le_refl _) (hk 0 (fun h => by cases h))
  · generalize tagsE e = M at *
    simp (disch := first | omega | (simp only [go_sem]; try omega)) only [go_sem, h1]
    refine ACalls.nilz [0, 2, 0] (by simp) ?_
    change ACalls _ _ [(.c (.str (tB l))), .c (.lst 2 (List.map encSr [])), (.c (.int .i64 0))] _ _
    refine evalOf_a l hl e he [] (by rfl) 0 (by decide) ?_
    rw [show finV (evP (lkF []) 0 e) 0 = cnS e from rfl]
    generalize cnS e = v at *
    by_cases h2 : v.q = 0
    · rw [if_neg (fun h => h.elim h1 fun h => h h2)] at hk
      simp (disch := first | omega | (simp only [go_sem]; try omega)) only [go_sem, h2]
      refine w_tree (.one 0 (.one 1 (.one 2 (.one 3 (.one 4 (.one 5 (.one 6 .done))))))) (by kernel_rfl) (by decide +kernel) ?_
      simp (disch := first | omega | (simp only [go_sem]; try omega)) only [go_sem, h2]
      repeat' first | (exact Ret.drop hH (Nat.le_refl _) (by simp [AV.ok, AV.ok1, AC.ok]) (hk _ (fun _ => rfl))) | apply And.intro
    · rw [if_pos (.inr h2)] at hk
      simp (disch := first | omega | (simp only [go_sem]; try omega)) only [go_sem, h2]
      refine w_tree (.one 0 (.one 1 (.one 2 (.one 3 (.one 4 (.one 5 (.one 6 .done))))))) (by kernel_rfl) (by decide +kernel) ?_
      simp (disch := first | omega | (simp only [go_sem]; try omega)) only [go_sem, h2]
      repeat' first | (exact Ret.drop hH (Nat.le_refl _) (by simp [AV.ok, AV.ok1, AC.ok]) (hk _ (fun h => by cases h))) | apply And.intro
end Go.Proofs.YtlnfiflbpmicgaaGreatDoor
