/- ExpressionsParsed: what the law's function answers for all numbers it is given. No condition. -/
import Derived.Test.YtebhpfhichdgaaaGreatDoorHVExpD
import Derived.Test.YtebhpfhichdgaaaGreatDoorHVTgsQ
import Derived.Test.YtebhpfhichdgaaaGreatDoorHVMoment
namespace Go.Proofs.YtebhpfhichdgaaaGreatDoor
open Go Go.RowKit
set_option maxRecDepth 100000
set_option linter.all false
set_option maxHeartbeats 4000000
variable {H : Hp} {K : AV → Hp → Prop}
theorem equalSe_a (l m : List ByteArray) (hl : l.length ≤ 1099511627776) (hm : m.length ≤ 1099511627776) (hk : K (.c (.bool (decide (l = m)))) H) : ACalls Tryz.prog 43 [.c (.lst 1 (l.map encSs)), .c (.lst 1 (m.map encSs))] H K := by
  by_cases hlen : l.length = m.length
  · refine acalls Tryz.func43 rfl (by kernel_rfl) (by simp (disch := first | omega | (simp only [go_sem]; first | done | omega)) only [go_sem]) (fun hH => ?_)
    simp (disch := first | omega | (simp only [go_sem]; first | done | omega)) only [go_sem]
    refine AWp.loop (H.length) [0, 1, 12] [13] (fun (k : Nat) => k ≤ l.length ∧ ∀ (j : Nat) (x y : ByteArray), j < k → l[j]? = some x → m[j]? = some y → x = y) (fun (k : Nat) => [(13, (.c (.int .i64 k)))]) (fun (k : Nat) => H) (fun (k : Nat) => l.length - k) (by kernel_rfl) (fun _ => rfl) (by kernel_rfl) (by first | (simp; done) | omega) (by first | (simp; done) | (simp; omega) | omega) kl ?_ (fun k hk1 _ _ => ?_)
    · exact Next.mk 0 (by simp) wk
    obtain ⟨hk1, hk2⟩ := hk1
    by_cases hlt : k < l.length
    · simp (disch := first | omega | (simp only [go_sem]; first | done | omega)) only [go_sem]
      refine w_draw (by kernel_rfl) (by decide +kernel) ?_
      simp (disch := first | omega | (simp only [go_sem]; first | done | omega)) only [go_sem]
      refine acond_b (fun c => ?_) (fun c => ?_)
      · simp (disch := first | omega | (simp only [go_sem]; first | done | omega)) only [go_sem]
        exact Next.mk (k + 1) ⟨⟨by omega, fun j x y hj hx hy => by
          rcases Nat.lt_or_ge j k with h | h
          · exact hk2 j x y h hx hy
          · obtain rfl : j = k := by omega
            rw [List.getElem?_eq_getElem hlt] at hx
            rw [List.getElem?_eq_getElem (by omega)] at hy
            injection hx with hx; injection hy with hy; rw [← hx, ← hy]; revert c; generalize l[j] = u; generalize m[j] = v; first | (simp; done) | (cases u; cases v; simp)⟩, by omega⟩ wk
      · simp (disch := first | omega | (simp only [go_sem]; first | done | omega)) only [go_sem]
        have : l ≠ m := by rintro rfl; simp at c
        (first | refine Ret.sameE (Nat.le_refl _) (by assumption) ?_ | refine Ret.dropE (by assumption) (Nat.le_refl _) (by assumption) (by simp [AV.ok, AV.ok1, AC.ok]) ?_) <;> simp [this]
    · simp (disch := first | omega | (simp only [go_sem]; first | done | omega)) only [go_sem]
      have : l = m := by
        apply List.ext_getElem hlen
        intro j h1 h2
        exact hk2 j _ _ (by omega) (List.getElem?_eq_getElem h1) (List.getElem?_eq_getElem h2)
      (first | refine Ret.sameE (Nat.le_refl _) (by assumption) ?_ | refine Ret.dropE (by assumption) (Nat.le_refl _) (by assumption) (by simp [AV.ok, AV.ok1, AC.ok]) ?_) <;> simp [this]
  · have : l ≠ m := by rintro rfl; exact hlen rfl
    refine acalls Tryz.func43 rfl (by kernel_rfl) (by simp (disch := first | omega | (simp only [go_sem]; first | done | omega)) only [go_sem]) (fun hH => ?_)
    simp (disch := first | omega | (simp only [go_sem]; first | done | omega)) only [go_sem]
    (first | refine Ret.sameE (Nat.le_refl _) (by assumption) ?_ | refine Ret.dropE (by assumption) (Nat.le_refl _) (by assumption) (by simp [AV.ok, AV.ok1, AC.ok]) ?_) <;> simp [this]
theorem cplG_le {α : Type} [DecidableEq α] : ∀ (t : List α) (x : α), (cplG x t).length ≤ t.length
  | [], _ => Nat.le_refl _
  | y :: t, x => by
    have := cplG_le t y
    unfold cplG
    rw [List.length_append, List.length_cons]
    split
    · simp only [List.length_nil]; omega
    · simp only [List.length_cons, List.length_nil]; omega
theorem cplF_le2 {α : Type} [DecidableEq α] (l : List α) : (cplF l).length ≤ l.length := by
  cases l with
  | nil => exact Nat.le_refl _
  | cons x t =>
    have := cplG_le t x
    unfold cplF
    simp only [List.length_cons]
    omega
theorem par_ne {l : List UInt8} {a c : Int} (h : parF l = .error (a, c)) : c ≠ 0 := by
  unfold parF at h
  repeat' split at h
  all_goals first | (cases h; done) | (injection h with h; injection h with h1 h2; omega)
theorem expressionsParsed_a (zs : List Int) (hz : zs.length ≤ 9223372036854775807) (hk : K (.c (.bool true)) H) : ACalls Tryz.prog 5 [.c (.lst 1 (zs.map encI))] H K := by
  have st : ∀ (k : Int) (L : Hp), 0 ≤ k → k ≤ 1000000000 → Str (H ++ strO zs k :: L) H.length zs k := fun k L h1 h2 => ⟨hz, h1, by omega, by simp⟩
  refine acalls Tryz.func5 rfl (by kernel_rfl) (by simp (disch := first | omega | (simp only [go_sem]; first | done | omega)) only [go_sem]) (fun hH => ?_)
  simp (disch := first | omega | (simp only [go_sem]; first | done | omega)) only [go_sem]
  refine anExpr_a H.length zs 0 (st _ _ (by omega) (by omega)) (by omega) (fun r j1 g1 g2 g3 => ?_)
  obtain ⟨l, rfl⟩ : ∃ l, r = tB l := ⟨tL r, rfl⟩
  rw [tB_size] at g3
  have hl : l.length ≤ 1000000 := by omega
  have hne : ∀ a c, parF l = .error (a, c) → c ≠ 0 := fun a c h => par_ne h
  have hchk : ∀ a c, parF l = .error (a, c) → chkF l = (a, c) := fun a c h => by unfold chkF; rw [h]
  have hchk2 : ∀ e, parF l = .ok e → chkF l = (0, 0) := fun e h => by unfold chkF; rw [h]
  simp (disch := first | omega | (simp only [go_sem]; first | done | omega)) only [go_sem]
  refine check_a l hl ?_
  simp (disch := first | omega | (simp only [go_sem]; first | done | omega)) only [go_sem]
  refine formatP_a l hl hne ?_
  generalize hR : rstF l = R
  simp (disch := first | omega | (simp only [go_sem]; first | done | omega)) only [go_sem]
  refine tagsP_a l hl hne (fun e he => ?_) (fun a c he => ?_)
  · simp (disch := first | omega | (simp only [go_sem]; first | done | omega)) only [go_sem]
    refine depth_a l hl (fun e' he' => ?_) (fun a c h' => by rw [he] at h'; cases h') hne
    rw [he] at he'
    injection he' with he'
    subst he'
    have hs := par_sz he
    have htl : (tagsE e).length ≤ 1000 := by
      have h1 := cplF_le2 (srtS (nmsE e))
      have h2 := srtS_len (nmsE e)
      have h3 := nmsE_len e
      unfold tagsE
      omega
    simp (disch := first | omega | (simp only [go_sem]; first | done | omega)) only [go_sem]
    refine checkOf_a l hl ?_
    simp (disch := first | omega | (simp only [go_sem]; first | done | omega)) only [go_sem]
    refine formatOf_a l hl hne ?_
    rw [hR, hchk2 e he]
    simp (disch := first | omega | (simp only [go_sem]; first | done | omega)) only [go_sem]
    refine tagsIn_a l hl e he ?_
    generalize tagsE e = M at *
    simp (disch := first | omega | (simp only [go_sem]; first | done | omega)) only [go_sem]
    refine equalSe_a M M (by omega) (by omega) ?_
    rw [decide_eq_true rfl]
    simp (disch := first | omega | (simp only [go_sem]; first | done | omega)) only [go_sem]
    refine heightOf_a l hl e he ?_
    simp (disch := first | omega | (simp only [go_sem]; first | done | omega)) only [go_sem]
    refine reckoned_a ?_
    simp (disch := first | omega | (simp only [go_sem]; first | done | omega)) only [go_sem]
    exact Ret.drop hH (Nat.le_refl _) trivial hk
  · simp (disch := first | omega | (simp only [go_sem]; first | done | omega)) only [go_sem]
    refine depth_a l hl (fun e' he' => by rw [he] at he'; cases he') (fun a' c' he' => ?_) hne
    rw [he] at he'
    injection he' with he'
    injection he' with h1 h2
    subst h1 h2
    have hc := hne a c he
    simp (disch := first | omega | (simp only [go_sem]; first | done | omega)) only [go_sem]
    refine checkOf_a l hl ?_
    simp (disch := first | omega | (simp only [go_sem]; first | done | omega)) only [go_sem]
    refine formatOf_a l hl hne ?_
    rw [hR, hchk a c he]
    simp (disch := first | omega | (simp only [go_sem]; first | done | omega)) only [go_sem, hc]
    refine reckoned_a ?_
    simp (disch := first | omega | (simp only [go_sem]; first | done | omega)) only [go_sem]
    exact Ret.drop hH (Nat.le_refl _) trivial hk
end Go.Proofs.YtebhpfhichdgaaaGreatDoor
