/- SampleTexts: what the law's function answers for all numbers it is given. No condition. -/
import Derived.Test.YtnodfnjmhcjnfaaGreatDoorHVTxtL
import Derived.Test.YtnodfnjmhcjnfaaGreatDoorHVMoment
namespace Go.Proofs.YtnodfnjmhcjnfaaGreatDoor
open Go Go.RowKit
set_option maxRecDepth 100000
set_option linter.all false
set_option maxHeartbeats 2000000
variable {H : Hp} {K : AV → Hp → Prop}
theorem equalTx_a (l m : List Smp) (hl : l.length ≤ 1099511627776) (hm : m.length ≤ 1099511627776) (hk : K (.c (.bool (decide (l = m)))) H) : ACalls Tryz.prog 18 [.c (.lst 3 (l.map encS)), .c (.lst 3 (m.map encS))] H K := by
  by_cases hlen : l.length = m.length
  · refine acalls Tryz.func18 rfl (by kernel_rfl) (by simp (disch := first | omega | (simp only [go_sem]; first | done | omega)) only [go_sem]) (fun hH => ?_)
    simp (disch := first | omega | (simp only [go_sem]; first | done | omega)) only [go_sem]
    refine AWp.loop (H.length) [0, 1, 12] [13] (fun (k : Nat) => k ≤ l.length ∧ ∀ (j : Nat) (x y : Smp), j < k → l[j]? = some x → m[j]? = some y → x = y) (fun (k : Nat) => [(13, (.c (.int .i64 k)))]) (fun (k : Nat) => H) (fun (k : Nat) => l.length - k) (by kernel_rfl) (fun _ => rfl) (by kernel_rfl) (by first | (simp; done) | omega) (by first | (simp; done) | (simp; omega) | omega) kl ?_ (fun k hk1 _ _ => ?_)
    · exact Next.mk 0 (by simp) wk
    obtain ⟨hk1, hk2⟩ := hk1
    by_cases hlt : k < l.length
    · simp (disch := first | omega | (simp only [go_sem]; first | done | omega)) only [go_sem]
      refine w_draw (by kernel_rfl) (by decide +kernel) ?_
      simp (disch := first | omega | (simp only [go_sem]; first | done | omega)) only [go_sem]
      refine acond_b (fun c => ?_) (fun c => ?_)
      · simp (disch := first | omega | (simp only [go_sem]; first | done | omega)) only [go_sem]
        exact Next.mk (k + 1) ⟨⟨by omega, fun j x y hj hx hy => by
          rcases Nat.lt_or_ge j k with h | h
          · exact hk2 j x y h hx hy
          · obtain rfl : j = k := by omega
            rw [List.getElem?_eq_getElem hlt] at hx
            rw [List.getElem?_eq_getElem (by omega)] at hy
            injection hx with hx; injection hy with hy; rw [← hx, ← hy]; revert c; generalize l[j] = u; generalize m[j] = v; first | (simp; done) | (cases u; cases v; simp)⟩, by omega⟩ wk
      · simp (disch := first | omega | (simp only [go_sem]; first | done | omega)) only [go_sem]
        have : l ≠ m := by rintro rfl; simp at c
        (first | refine Ret.sameE (Nat.le_refl _) (by assumption) ?_ | refine Ret.dropE (by assumption) (Nat.le_refl _) (by assumption) (by simp [AV.ok, AV.ok1, AC.ok]) ?_) <;> simp [this]
    · simp (disch := first | omega | (simp only [go_sem]; first | done | omega)) only [go_sem]
      have : l = m := by
        apply List.ext_getElem hlen
        intro j h1 h2
        exact hk2 j _ _ (by omega) (List.getElem?_eq_getElem h1) (List.getElem?_eq_getElem h2)
      (first | refine Ret.sameE (Nat.le_refl _) (by assumption) ?_ | refine Ret.dropE (by assumption) (Nat.le_refl _) (by assumption) (by simp [AV.ok, AV.ok1, AC.ok]) ?_) <;> simp [this]
  · have : l ≠ m := by rintro rfl; exact hlen rfl
    refine acalls Tryz.func18 rfl (by kernel_rfl) (by simp (disch := first | omega | (simp only [go_sem]; first | done | omega)) only [go_sem]) (fun hH => ?_)
    simp (disch := first | omega | (simp only [go_sem]; first | done | omega)) only [go_sem]
    (first | refine Ret.sameE (Nat.le_refl _) (by assumption) ?_ | refine Ret.dropE (by assumption) (Nat.le_refl _) (by assumption) (by simp [AV.ok, AV.ok1, AC.ok]) ?_) <;> simp [this]
theorem textR_small {l : List Smp} (h : serF l = 0) (hl : l.length ≤ 100) : textR l = (textT l, 0) := by
  obtain ⟨s1, s2⟩ := serF_ok' h
  have key : ∀ m : List Smp, (∀ x ∈ m, smpErr x = 0) → (textT m).length ≤ 44 * m.length := by
    intro m
    induction m with
    | nil => intro _; simp [textT]
    | cons x r ih =>
      intro hm
      have h7 := smp_ok' (hm x (by simp))
      have h8 := lineT_len (x := x) (by omega) (by omega)
      have h9 := ih (fun y hy => hm y (List.mem_cons_of_mem _ hy))
      unfold textT at h9 ⊢
      rw [List.flatMap_cons, List.length_append, List.length_append, List.length_singleton, List.length_cons]
      omega
  have := key l s2
  unfold textR
  rw [if_neg (by simp [h]), if_neg (by omega)]
theorem txtR_len (t : List UInt8) (h : t.length ≤ 100000) : (txtR t).1.length ≤ 100000 := by
  have h1 := List.length_filterMap_le rdLine (lnsF t)
  have h2 := lns_len t
  unfold txtR
  repeat' split
  all_goals first | (simp; done) | (dsimp only; omega)
theorem sampleTexts_a (zs : List Int) (hz : zs.length ≤ 9223372036854775807) (hk : K (.c (.bool true)) H) : ACalls Tryz.prog 3 [.c (.lst 1 (zs.map encI))] H K := by
  have st : ∀ (k : Int) (L : Hp), 0 ≤ k → k ≤ 1000000000 → Str (H ++ strO zs k :: L) H.length zs k := fun k L h1 h2 => ⟨hz, h1, by omega, by simp⟩
  refine acalls Tryz.func3 rfl (by kernel_rfl) (by simp (disch := first | omega | (simp only [go_sem]; first | done | omega)) only [go_sem]) (fun hH => ?_)
  simp (disch := first | omega | (simp only [go_sem]; first | done | omega)) only [go_sem]
  refine samples_a H.length zs 0 6 (st _ _ (by omega) (by omega)) (by omega) (by omega) (by omega) (fun a j1 g1 g2 g3 => ?_)
  simp (disch := first | omega | (simp only [go_sem]; first | done | omega)) only [go_sem]
  refine sampleTextD_a H.length zs j1 (st _ _ (by omega) (by omega)) (by omega) (fun t j2 g4 g5 g6 => ?_)
  simp (disch := first | omega | (simp only [go_sem]; first | done | omega)) only [go_sem]
  refine text_a a (by omega) ?_
  simp (disch := first | omega | (simp only [go_sem]; first | done | omega)) only [go_sem]
  refine seriesFault_a a (by omega) ?_
  have htl := txtR_len t (by omega)
  have hfin : ∀ G : Hp, Ret H.length (.c (.bool true)) (H ++ G) K := fun G => Ret.drop hH (Nat.le_refl _) trivial hk
  by_cases h0 : serF a = 0
  · obtain ⟨s1, s2⟩ := serF_ok' h0
    rw [textR_small h0 (by omega)]
    simp (disch := first | omega | (simp only [go_sem]; first | done | omega)) only [go_sem, h0]
    refine sampleLines_a a s1 s2 ?_
    simp (disch := first | omega | (simp only [go_sem]; first | done | omega)) only [go_sem]
    refine readT_a t (by omega) ?_
    simp (disch := first | omega | (simp only [go_sem]; first | done | omega)) only [go_sem]
    refine readR_a t (by omega) ?_
    generalize txtR t = R at *
    obtain ⟨L, i, e⟩ := R
    simp (disch := first | omega | (simp only [go_sem]; first | done | omega)) only [go_sem]
    refine equalTx_a L L (by dsimp only at htl; omega) (by dsimp only at htl; omega) ?_
    rw [show decide (L = L) = true from decide_eq_true rfl]
    simp (disch := first | omega | (simp only [go_sem]; first | done | omega)) only [go_sem]
    refine sampled_a ?_
    simp (disch := first | omega | (simp only [go_sem]; first | done | omega)) only [go_sem]
    exact hfin _
  · rw [show textR a = ([], serF a) by unfold textR; rw [if_pos h0]]
    simp (disch := first | omega | (simp only [go_sem]; first | done | omega)) only [go_sem, h0]
    refine readT_a t (by omega) ?_
    simp (disch := first | omega | (simp only [go_sem]; first | done | omega)) only [go_sem]
    refine readR_a t (by omega) ?_
    generalize txtR t = R at *
    obtain ⟨L, i, e⟩ := R
    simp (disch := first | omega | (simp only [go_sem]; first | done | omega)) only [go_sem, tB_noS]
    refine equalTx_a L L (by dsimp only at htl; omega) (by dsimp only at htl; omega) ?_
    rw [show decide (L = L) = true from decide_eq_true rfl]
    simp (disch := first | omega | (simp only [go_sem]; first | done | omega)) only [go_sem]
    refine sampled_a ?_
    simp (disch := first | omega | (simp only [go_sem]; first | done | omega)) only [go_sem]
    exact hfin _
end Go.Proofs.YtnodfnjmhcjnfaaGreatDoor
