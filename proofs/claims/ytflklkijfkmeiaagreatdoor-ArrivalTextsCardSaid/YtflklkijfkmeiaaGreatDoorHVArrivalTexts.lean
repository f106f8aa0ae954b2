/- ArrivalTexts: what the law's function answers for all numbers it is given. No condition. -/
import Derived.Test.YtflklkijfkmeiaaGreatDoorHVGQ
import Derived.Test.YtflklkijfkmeiaaGreatDoorHVGP
import Derived.Test.YtflklkijfkmeiaaGreatDoorHVForw
namespace Go.Proofs.YtflklkijfkmeiaaGreatDoor
open Go Go.RowKit
set_option maxRecDepth 100000
set_option linter.all false
set_option maxHeartbeats 4000000
variable {H : Hp} {K : AV → Hp → Prop}
theorem equalAq_a (l m : List Arr) (hl : l.length ≤ 1099511627776) (hm : m.length ≤ 1099511627776) (hk : K (.c (.bool (decide (l = m)))) H) : ACalls Tryz.prog 32 [.c (.lst 7 (l.map encAr)), .c (.lst 7 (m.map encAr))] H K := by
  by_cases hlen : l.length = m.length
  · refine acalls Tryz.func32 rfl (by kernel_rfl) (by simp (disch := first | omega | (simp only [go_sem]; first | done | omega)) only [go_sem]) (fun hH => ?_)
    simp (disch := first | omega | (simp only [go_sem]; first | done | omega)) only [go_sem]
    refine AWp.loop (H.length) [0, 1, 12] [13] (fun (k : Nat) => k ≤ l.length ∧ ∀ (j : Nat) (x y : Arr), j < k → l[j]? = some x → m[j]? = some y → x = y) (fun (k : Nat) => [(13, (.c (.int .i64 k)))]) (fun (k : Nat) => H) (fun (k : Nat) => l.length - k) (by kernel_rfl) (fun _ => rfl) (by kernel_rfl) (by first | (simp; done) | omega) (by first | (simp; done) | (simp; omega) | omega) kl ?_ (fun k hk1 _ _ => ?_)
    · exact Next.mk 0 (by simp) wk
    obtain ⟨hk1, hk2⟩ := hk1
    by_cases hlt : k < l.length
    · simp (disch := first | omega | (simp only [go_sem]; first | done | omega)) only [go_sem]
      refine w_draw (by kernel_rfl) (by decide +kernel) ?_
      simp (disch := first | omega | (simp only [go_sem]; first | done | omega)) only [go_sem, arr_eqs]
      refine acond_b (fun c => ?_) (fun c => ?_)
      · simp (disch := first | omega | (simp only [go_sem]; first | done | omega)) only [go_sem]
        exact Next.mk (k + 1) ⟨⟨by omega, fun j x y hj hx hy => by
          rcases Nat.lt_or_ge j k with h | h
          · exact hk2 j x y h hx hy
          · obtain rfl : j = k := by omega
            rw [List.getElem?_eq_getElem hlt] at hx
            rw [List.getElem?_eq_getElem (by omega)] at hy
            injection hx with hx; injection hy with hy; rw [← hx, ← hy]; exact of_decide_eq_true c⟩, by omega⟩ wk
      · simp (disch := first | omega | (simp only [go_sem]; first | done | omega)) only [go_sem]
        have : l ≠ m := by rintro rfl; simp at c
        (first | refine Ret.sameE (Nat.le_refl _) (by assumption) ?_ | refine Ret.dropE (by assumption) (Nat.le_refl _) (by assumption) (by simp [AV.ok, AV.ok1, AC.ok]) ?_) <;> simp [this]
    · simp (disch := first | omega | (simp only [go_sem]; first | done | omega)) only [go_sem]
      have : l = m := by
        apply List.ext_getElem hlen
        intro j h1 h2
        exact hk2 j _ _ (by omega) (List.getElem?_eq_getElem h1) (List.getElem?_eq_getElem h2)
      (first | refine Ret.sameE (Nat.le_refl _) (by assumption) ?_ | refine Ret.dropE (by assumption) (Nat.le_refl _) (by assumption) (by simp [AV.ok, AV.ok1, AC.ok]) ?_) <;> simp [this]
  · have : l ≠ m := by rintro rfl; exact hlen rfl
    refine acalls Tryz.func32 rfl (by kernel_rfl) (by simp (disch := first | omega | (simp only [go_sem]; first | done | omega)) only [go_sem]) (fun hH => ?_)
    simp (disch := first | omega | (simp only [go_sem]; first | done | omega)) only [go_sem]
    (first | refine Ret.sameE (Nat.le_refl _) (by assumption) ?_ | refine Ret.dropE (by assumption) (Nat.le_refl _) (by assumption) (by simp [AV.ok, AV.ok1, AC.ok]) ?_) <;> simp [this]
theorem arrivalTexts_a (zs : List Int) (hz : zs.length ≤ 9223372036854775807) (hk : K (.c (.bool true)) H) : ACalls Tryz.prog 4 [.c (.lst 1 (zs.map encI))] H K := by
  have st : ∀ (k : Int) (L : Hp), 0 ≤ k → k ≤ 1000000000 → Str (H ++ strO zs k :: L) H.length zs k := fun k L h1 h2 => ⟨hz, h1, by omega, by simp⟩
  refine acalls Tryz.func4 rfl (by kernel_rfl) (by simp (disch := first | omega | (simp only [go_sem]; first | done | omega)) only [go_sem]) (fun hH => ?_)
  simp (disch := first | omega | (simp only [go_sem]; first | done | omega)) only [go_sem]
  refine range_a H.length zs 0 0 6 (st _ _ (by omega) (by omega)) (by omega) (by omega) (by omega) (fun m hm0 hm1 => ?_)
  simp (disch := first | omega | (simp only [go_sem]; first | done | omega)) only [go_sem]
  refine arrivals_a H.length zs 1 m (st _ _ (by omega) (by omega)) (by omega) (by omega) (by omega) (fun a j1 g1 g2 g3 g4 => ?_)
  simp (disch := first | omega | (simp only [go_sem]; first | done | omega)) only [go_sem]
  refine arrivalText_a H.length zs j1 (st _ _ (by omega) (by omega)) (by omega) (fun t j2 g5 g6 g7 => ?_)
  have hsz : ∀ x ∈ a, x.nd.size ≤ 1099511627776 ∧ x.p.tag.size ≤ 1099511627776 := fun x hx => by
    have := (g4 x hx).1
    have := (g4 x hx).2.1
    omega
  have hxl := txtG_len rdA arF t (by omega)
  simp (disch := first | omega | (simp only [go_sem]; first | done | omega)) only [go_sem]
  refine textArr_a a hsz (by omega) ?_
  simp (disch := first | omega | (simp only [go_sem]; first | done | omega)) only [go_sem]
  refine arrivalsFault_a a hsz (by omega) ?_
  by_cases h0 : arF a = 0
  · have hT := arT_of h0
    have hTl := textA_len a hT
    rw [show textAR a = (textA a, 0) by unfold textAR; rw [if_neg (by simp [h0]), if_neg (by omega)]]
    rw [h0]
    simp (disch := first | omega | (simp only [go_sem]; first | done | omega)) only [go_sem]
    refine arrivalLines_a a (by omega) hT ?_
    simp (disch := first | omega | (simp only [go_sem]; first | done | omega)) only [go_sem]
    refine readArr_a t (by omega) ?_
    simp (disch := first | omega | (simp only [go_sem]; first | done | omega)) only [go_sem]
    refine readArrQ_a t (by omega) ?_
    generalize txtG rdA arF t = X at *
    simp (disch := first | omega | (simp only [go_sem]; first | done | omega)) only [go_sem]
    refine equalAq_a X.1 X.1 (by omega) (by omega) ?_
    rw [decide_eq_true rfl]
    simp (disch := first | omega | (simp only [go_sem]; first | done | omega)) only [go_sem]
    refine forwarded_a ?_
    simp (disch := first | omega | (simp only [go_sem]; first | done | omega)) only [go_sem]
    exact Ret.drop hH (Nat.le_refl _) trivial hk
  · rw [show textAR a = ([], arF a) by unfold textAR; rw [if_pos h0]]
    dsimp only
    rw [show tB ([] : List UInt8) = ⟨#[]⟩ from rfl]
    generalize arF a = e at *
    simp (disch := first | omega | (simp only [go_sem]; first | done | omega)) only [go_sem, h0]
    refine readArr_a t (by omega) ?_
    simp (disch := first | omega | (simp only [go_sem]; first | done | omega)) only [go_sem]
    refine readArrQ_a t (by omega) ?_
    generalize txtG rdA arF t = X at *
    simp (disch := first | omega | (simp only [go_sem]; first | done | omega)) only [go_sem]
    refine equalAq_a X.1 X.1 (by omega) (by omega) ?_
    rw [decide_eq_true rfl]
    simp (disch := first | omega | (simp only [go_sem]; first | done | omega)) only [go_sem]
    refine forwarded_a ?_
    simp (disch := first | omega | (simp only [go_sem]; first | done | omega)) only [go_sem]
    exact Ret.drop hH (Nat.le_refl _) trivial hk
end Go.Proofs.YtflklkijfkmeiaaGreatDoor
