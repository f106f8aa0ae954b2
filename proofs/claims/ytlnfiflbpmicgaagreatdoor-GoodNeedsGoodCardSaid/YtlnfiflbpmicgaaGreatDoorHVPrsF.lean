/- expr.parse, expr.Check. Condition: the text is no longer than a machine holds. -/
import Derived.Test.YtlnfiflbpmicgaaGreatDoorHVPrsE
namespace Go.Proofs.YtlnfiflbpmicgaaGreatDoor
open Go Go.RowKit
set_option maxRecDepth 100000
set_option linter.all false
set_option maxHeartbeats 2000000
variable {H : Hp} {K : AV → Hp → Prop}
theorem parse_a (l : List UInt8) (hl : l.length ≤ 1000000) (hk1 : ∀ e, parF l = .ok e → K (.tup [.c (.fp (encNd e)), (.c (.int .i64 0)), (.c (.int .i64 0))]) H) (hk2 : ∀ a c, parF l = .error (a, c) → K (.tup [.c (.ptr none), (.c (.int .i64 a)), (.c (.int .i64 c))]) H) : ACalls Tryz.prog 60 [(.c (.str (tB l)))] H K := by
  have hsz := tB_size l
  unfold parF at hk1 hk2
  by_cases h5 : 500 < l.length
  · rw [if_pos h5] at hk2
    have hk := hk2 0 2 rfl
    refine acalls Tryz.func60 rfl (by kernel_rfl) (by simp (disch := first | omega | (simp only [go_sem]; first | done | omega)) only [go_sem]) (fun hH => ?_)
    simp (disch := first | omega | (simp only [go_sem]; first | done | omega)) only [go_sem, hsz, h5]
    exact Ret.same (Nat.le_refl _) hk
  rw [if_neg h5] at hk1 hk2
  obtain ⟨n, hn⟩ : ∃ n, n = (tokF l 0).length := ⟨_, rfl⟩
  have hnl := (tokF_len l 0).2
  rw [← hn] at hk1 hk2 hnl
  have hT := Tl.top l
  have hat : ∀ X : AObj, (H ++ [X])[H.length]? = some X := fun X => by simp
  have hset : ∀ X Y : AObj, (H ++ [X]).set H.length Y = H ++ [Y] := fun X Y => by simp
  have hfac := compareP_a (d := 0) (by omega) (factor_a (l := l) (by omega) n 0 (by omega) (by omega)) (fact_good l n 0)
  have hcg := comp_good 0 (fact_good l n 0)
  refine acalls Tryz.func60 rfl (by kernel_rfl) (by simp (disch := first | omega | (simp only [go_sem]; first | done | omega)) only [go_sem]) (fun hH => ?_)
  simp (disch := first | omega | (simp only [go_sem]; first | done | omega)) only [go_sem, hsz, h5]
  repeat' (first | ((first | refine acond_d ?_ ?_ | refine acond_b ?_ ?_ | refine ag_d ?_ ?_ | refine ag_n ?_ ?_ | refine ag_bt ?_ ?_ | refine ag_bf ?_ ?_) <;> intro c <;> try simp (disch := first | omega | (simp only [go_sem]; first | done | omega)) only [go_sem, c]) | ((first | refine w_draw (by kernel_rfl) (by decide +kernel) ?_ | refine scan_a l 0 (by omega) (by omega) (fun u T1 hu => ?_)) <;> try simp (disch := first | omega | (simp only [go_sem]; first | done | omega)) only [go_sem]))
  rw [List.drop_zero] at hu
  have e0 : AObj.row 196 7 [[.str (tB l), .int .i64 (prK u), .int .i64 u.o, .str (tB u.x), .int .i64 0, .int .i64 (-1), .int .i64 (-1)]] true = psO l (tokF l 0) 0 (-1) := by rw [hu]; rfl
  rw [e0]
  refine hfac H.length _ _ (tokF l 0) (-1) (hat _) hT (by omega) (fun x T' dp' h => ?_) (fun e k a s d' dp' cs h => ?_)
  · rw [h] at hk1 hk2
    obtain ⟨g1, g2, g3⟩ := hcg _ _ _ _ _ hT h
    obtain ⟨t, T2, rfl, ht, _⟩ := g2.head
    dsimp only at hk1 hk2
    rw [hset, psO_row]
    have hkd := (prK_k ht).2.2.2
    by_cases h0 : t.k = 0
    · have hp : prK t = 0 := hkd.2 h0
      rw [if_neg (by simpa using h0)] at hk1 hk2
      by_cases hdp : 0 ≤ dp'
      · rw [if_pos hdp] at hk2
        have hk := hk2 _ _ rfl
        simp (disch := first | omega | (simp only [go_sem]; first | done | omega)) only [go_sem, hp, hdp]
        refine w_draw (by kernel_rfl) (by decide +kernel) ?_
        simp (disch := first | omega | (simp only [go_sem]; first | done | omega)) only [go_sem]
        exact Ret.drop hH (Nat.le_refl _) (by simp [AV.ok, AV.ok1, AC.ok]) hk
      · rw [if_neg hdp] at hk1
        have hk := hk1 _ rfl
        simp (disch := first | omega | (simp only [go_sem]; first | done | omega)) only [go_sem, hp, hdp]
        exact Ret.drop hH (Nat.le_refl _) (by simp [AV.ok, AV.ok1, AC.ok]) hk
    · have hp : ¬ prK t = 0 := fun h => h0 (hkd.1 h)
      rw [if_pos (by simpa using h0)] at hk2
      have hk := hk2 _ _ rfl
      simp (disch := first | omega | (simp only [go_sem]; first | done | omega)) only [go_sem, hp]
      refine failP_a (l := l) (k := prK t) (a := t.o) (x := tB t.x) (d := 0) (dp := dp') (bad := -1) (hat _) ?_
      rw [if_pos (by decide), hset]
      unfold psJ
      have hto : (0 : Int) ≤ (t.o : Int) := by omega
      simp (disch := first | omega | (simp only [go_sem]; first | done | omega)) only [go_sem, hto]
      refine w_draw (by kernel_rfl) (by decide +kernel) ?_
      simp (disch := first | omega | (simp only [go_sem]; first | done | omega)) only [go_sem]
      exact Ret.drop hH (Nat.le_refl _) (by simp [AV.ok, AV.ok1, AC.ok]) hk
  · rw [h] at hk2
    have hk := hk2 _ _ rfl
    rw [hset, psJ_row]
    simp (disch := first | omega | (simp only [go_sem]; first | done | omega)) only [go_sem]
    refine w_draw (by kernel_rfl) (by decide +kernel) ?_
    simp (disch := first | omega | (simp only [go_sem]; first | done | omega)) only [go_sem]
    exact Ret.drop hH (Nat.le_refl _) (by simp [AV.ok, AV.ok1, AC.ok]) hk
end Go.Proofs.YtlnfiflbpmicgaaGreatDoor
