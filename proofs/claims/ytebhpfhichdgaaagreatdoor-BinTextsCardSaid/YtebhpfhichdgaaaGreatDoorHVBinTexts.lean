/- BinTexts: what the law's function answers for all numbers it is given. No condition. -/
import Derived.Test.YtebhpfhichdgaaaGreatDoorHVBtxD
import Derived.Test.YtebhpfhichdgaaaGreatDoorHVBtxP
import Derived.Test.YtebhpfhichdgaaaGreatDoorHVBtxQ
namespace Go.Proofs.YtebhpfhichdgaaaGreatDoor
open Go Go.RowKit
set_option maxRecDepth 100000
set_option linter.all false
set_option maxHeartbeats 4000000
variable {H : Hp} {K : AV → Hp → Prop}
theorem equalBq_a (l m : List Bin) (hl : l.length ≤ 1099511627776) (hm : m.length ≤ 1099511627776) (hk : K (.c (.bool (decide (l = m)))) H) : ACalls Tryz.prog 18 [.c (.lst 6 (l.map encN)), .c (.lst 6 (m.map encN))] H K := by
  by_cases hlen : l.length = m.length
  · refine acalls Tryz.func18 rfl (by kernel_rfl) (by simp (disch := first | omega | (simp only [go_sem]; first | done | omega)) only [go_sem]) (fun hH => ?_)
    simp (disch := first | omega | (simp only [go_sem]; first | done | omega)) only [go_sem]
    refine AWp.loop (H.length) [0, 1, 12] [13] (fun (k : Nat) => k ≤ l.length ∧ ∀ (j : Nat) (x y : Bin), j < k → l[j]? = some x → m[j]? = some y → x = y) (fun (k : Nat) => [(13, (.c (.int .i64 k)))]) (fun (k : Nat) => H) (fun (k : Nat) => l.length - k) (by kernel_rfl) (fun _ => rfl) (by kernel_rfl) (by first | (simp; done) | omega) (by first | (simp; done) | (simp; omega) | omega) kl ?_ (fun k hk1 _ _ => ?_)
    · exact Next.mk 0 (by simp) wk
    obtain ⟨hk1, hk2⟩ := hk1
    by_cases hlt : k < l.length
    · simp (disch := first | omega | (simp only [go_sem]; first | done | omega)) only [go_sem]
      refine w_draw (by kernel_rfl) (by decide +kernel) ?_
      simp (disch := first | omega | (simp only [go_sem]; first | done | omega)) only [go_sem]
      refine acond_b (fun c => ?_) (fun c => ?_)
      · simp (disch := first | omega | (simp only [go_sem]; first | done | omega)) only [go_sem]
        exact Next.mk (k + 1) ⟨⟨by omega, fun j x y hj hx hy => by
          rcases Nat.lt_or_ge j k with h | h
          · exact hk2 j x y h hx hy
          · obtain rfl : j = k := by omega
            rw [List.getElem?_eq_getElem hlt] at hx
            rw [List.getElem?_eq_getElem (by omega)] at hy
            injection hx with hx; injection hy with hy; rw [← hx, ← hy]; revert c; generalize l[j] = u; generalize m[j] = v; first | (simp; done) | (cases u; cases v; simp)⟩, by omega⟩ wk
      · simp (disch := first | omega | (simp only [go_sem]; first | done | omega)) only [go_sem]
        have : l ≠ m := by rintro rfl; simp at c
        (first | refine Ret.sameE (Nat.le_refl _) (by assumption) ?_ | refine Ret.dropE (by assumption) (Nat.le_refl _) (by assumption) (by simp [AV.ok, AV.ok1, AC.ok]) ?_) <;> simp [this]
    · simp (disch := first | omega | (simp only [go_sem]; first | done | omega)) only [go_sem]
      have : l = m := by
        apply List.ext_getElem hlen
        intro j h1 h2
        exact hk2 j _ _ (by omega) (List.getElem?_eq_getElem h1) (List.getElem?_eq_getElem h2)
      (first | refine Ret.sameE (Nat.le_refl _) (by assumption) ?_ | refine Ret.dropE (by assumption) (Nat.le_refl _) (by assumption) (by simp [AV.ok, AV.ok1, AC.ok]) ?_) <;> simp [this]
  · have : l ≠ m := by rintro rfl; exact hlen rfl
    refine acalls Tryz.func18 rfl (by kernel_rfl) (by simp (disch := first | omega | (simp only [go_sem]; first | done | omega)) only [go_sem]) (fun hH => ?_)
    simp (disch := first | omega | (simp only [go_sem]; first | done | omega)) only [go_sem]
    (first | refine Ret.sameE (Nat.le_refl _) (by assumption) ?_ | refine Ret.dropE (by assumption) (Nat.le_refl _) (by assumption) (by simp [AV.ok, AV.ok1, AC.ok]) ?_) <;> simp [this]
theorem txtB_len (step : Int) (l : List UInt8) (h : l.length ≤ 1000) : (txtB step l).1.length ≤ 1000 := by
  have h1 := List.length_filterMap_le rdB (lnsF l)
  have h2 := lns_len l
  unfold txtB
  repeat' split
  all_goals first | (simp only [List.length_nil]; omega) | (dsimp only; omega)
theorem binTexts_a (zs : List Int) (hz : zs.length ≤ 9223372036854775807) (hk : K (.c (.bool true)) H) : ACalls Tryz.prog 3 [.c (.lst 1 (zs.map encI))] H K := by
  have st : ∀ (k : Int) (L : Hp), 0 ≤ k → k ≤ 1000000000 → Str (H ++ strO zs k :: L) H.length zs k := fun k L h1 h2 => ⟨hz, h1, by omega, by simp⟩
  refine acalls Tryz.func3 rfl (by kernel_rfl) (by simp (disch := first | omega | (simp only [go_sem]; first | done | omega)) only [go_sem]) (fun hH => ?_)
  simp (disch := first | omega | (simp only [go_sem]; first | done | omega)) only [go_sem]
  refine aStep_a H.length zs 0 (st _ _ (by omega) (by omega)) (by omega) (fun step hst => ?_)
  have hsb : -10 ≤ step ∧ step ≤ 172800000 := by
    simp only [List.mem_cons, List.not_mem_nil, or_false] at hst
    omega
  simp (disch := first | omega | (simp only [go_sem]; first | done | omega)) only [go_sem]
  refine binList_a H.length zs 1 step (st _ _ (by omega) (by omega)) (by omega) hsb (fun b j1 g1 g2 g3 => ?_)
  simp (disch := first | omega | (simp only [go_sem]; first | done | omega)) only [go_sem]
  refine binText_a H.length zs j1 step (st _ _ (by omega) (by omega)) (by omega) hsb (fun t j2 g4 g5 g6 => ?_)
  simp (disch := first | omega | (simp only [go_sem]; first | done | omega)) only [go_sem]
  refine textB_a b step (by omega) ?_
  simp (disch := first | omega | (simp only [go_sem]; first | done | omega)) only [go_sem]
  refine binsFault_a b step (by omega) ?_
  have hfl : ∀ X : List Bin × Int × Int, X = txtB step t → X.1.length ≤ 1000 := fun X h => by rw [h]; exact txtB_len step t g6
  by_cases h0 : bnF b step = 0
  · obtain ⟨s1, s2⟩ := bnF_ok h0
    have hTl := textBn_len b s2
    rw [show textBR b step = (textBn b, 0) by unfold textBR; rw [if_neg (by simp [h0]), if_neg (by omega)]]
    rw [h0]
    simp (disch := first | omega | (simp only [go_sem]; first | done | omega)) only [go_sem]
    refine binLines_a b (by omega) s2 ?_
    simp (disch := first | omega | (simp only [go_sem]; first | done | omega)) only [go_sem]
    refine readB_a step t (by omega) ?_
    simp (disch := first | omega | (simp only [go_sem]; first | done | omega)) only [go_sem]
    refine readRB_a step t (by omega) ?_
    generalize hX : txtB step t = X at *
    have hX1 := hfl X rfl
    clear hfl
    simp (disch := first | omega | (simp only [go_sem]; first | done | omega)) only [go_sem]
    refine equalBq_a X.1 X.1 (by omega) (by omega) ?_
    rw [decide_eq_true rfl]
    simp (disch := first | omega | (simp only [go_sem]; first | done | omega)) only [go_sem]
    refine retained_a ?_
    simp (disch := first | omega | (simp only [go_sem]; first | done | omega)) only [go_sem]
    exact Ret.drop hH (Nat.le_refl _) trivial hk
  · rw [show textBR b step = ([], bnF b step) by unfold textBR; rw [if_pos h0]]
    dsimp only
    rw [show tB ([] : List UInt8) = ⟨#[]⟩ from rfl]
    generalize bnF b step = e at *
    simp (disch := first | omega | (simp only [go_sem]; first | done | omega)) only [go_sem, h0]
    refine readB_a step t (by omega) ?_
    simp (disch := first | omega | (simp only [go_sem]; first | done | omega)) only [go_sem]
    refine readRB_a step t (by omega) ?_
    generalize hX : txtB step t = X at *
    have hX1 := hfl X rfl
    clear hfl
    simp (disch := first | omega | (simp only [go_sem]; first | done | omega)) only [go_sem]
    refine equalBq_a X.1 X.1 (by omega) (by omega) ?_
    rw [decide_eq_true rfl]
    simp (disch := first | omega | (simp only [go_sem]; first | done | omega)) only [go_sem]
    refine retained_a ?_
    simp (disch := first | omega | (simp only [go_sem]; first | done | omega)) only [go_sem]
    exact Ret.drop hH (Nat.le_refl _) trivial hk
end Go.Proofs.YtebhpfhichdgaaaGreatDoor
