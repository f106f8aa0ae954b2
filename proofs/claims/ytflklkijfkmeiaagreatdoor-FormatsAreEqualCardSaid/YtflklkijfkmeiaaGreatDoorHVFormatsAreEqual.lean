/- FormatsAreEqual: what the law's function answers for all numbers it is given. No condition. -/
import Derived.Test.YtflklkijfkmeiaaGreatDoorHVFmB
import Derived.Test.YtflklkijfkmeiaaGreatDoorHVEvT
import Derived.Test.YtflklkijfkmeiaaGreatDoorHVSrl
import Derived.Test.YtflklkijfkmeiaaGreatDoorHVTgs
import Derived.Test.YtflklkijfkmeiaaGreatDoorHVGC
import Derived.Test.YtflklkijfkmeiaaGreatDoorHVMoment
namespace Go.Proofs.YtflklkijfkmeiaaGreatDoor
open Go Go.RowKit
set_option maxRecDepth 100000
set_option linter.all false
set_option maxHeartbeats 4000000
variable {H : Hp} {K : AV → Hp → Prop}
theorem equalSe_a (l m : List ByteArray) (hl : l.length ≤ 1099511627776) (hm : m.length ≤ 1099511627776) (hk : K (.c (.bool (decide (l = m)))) H) : ACalls Tryz.prog 42 [.c (.lst 1 (l.map encSs)), .c (.lst 1 (m.map encSs))] H K := by
  by_cases hlen : l.length = m.length
  · refine acalls Tryz.func42 rfl (by kernel_rfl) (by simp (disch := first | omega | (simp only [go_sem]; first | done | omega)) only [go_sem]) (fun hH => ?_)
    simp (disch := first | omega | (simp only [go_sem]; first | done | omega)) only [go_sem]
    refine AWp.loop (H.length) [0, 1, 12] [13] (fun (k : Nat) => k ≤ l.length ∧ ∀ (j : Nat) (x y : ByteArray), j < k → l[j]? = some x → m[j]? = some y → x = y) (fun (k : Nat) => [(13, (.c (.int .i64 k)))]) (fun (k : Nat) => H) (fun (k : Nat) => l.length - k) (by kernel_rfl) (fun _ => rfl) (by kernel_rfl) (by first | (simp; done) | omega) (by first | (simp; done) | (simp; omega) | omega) kl ?_ (fun k hk1 _ _ => ?_)
    · exact Next.mk 0 (by simp) wk
    obtain ⟨hk1, hk2⟩ := hk1
    by_cases hlt : k < l.length
    · simp (disch := first | omega | (simp only [go_sem]; first | done | omega)) only [go_sem]
      refine w_draw (by kernel_rfl) (by decide +kernel) ?_
      simp (disch := first | omega | (simp only [go_sem]; first | done | omega)) only [go_sem]
      refine acond_b (fun c => ?_) (fun c => ?_)
      · simp (disch := first | omega | (simp only [go_sem]; first | done | omega)) only [go_sem]
        exact Next.mk (k + 1) ⟨⟨by omega, fun j x y hj hx hy => by
          rcases Nat.lt_or_ge j k with h | h
          · exact hk2 j x y h hx hy
          · obtain rfl : j = k := by omega
            rw [List.getElem?_eq_getElem hlt] at hx
            rw [List.getElem?_eq_getElem (by omega)] at hy
            injection hx with hx; injection hy with hy; rw [← hx, ← hy]; revert c; generalize l[j] = u; generalize m[j] = v; first | (simp; done) | (cases u; cases v; simp)⟩, by omega⟩ wk
      · simp (disch := first | omega | (simp only [go_sem]; first | done | omega)) only [go_sem]
        have : l ≠ m := by rintro rfl; simp at c
        (first | refine Ret.sameE (Nat.le_refl _) (by assumption) ?_ | refine Ret.dropE (by assumption) (Nat.le_refl _) (by assumption) (by simp [AV.ok, AV.ok1, AC.ok]) ?_) <;> simp [this]
    · simp (disch := first | omega | (simp only [go_sem]; first | done | omega)) only [go_sem]
      have : l = m := by
        apply List.ext_getElem hlen
        intro j h1 h2
        exact hk2 j _ _ (by omega) (List.getElem?_eq_getElem h1) (List.getElem?_eq_getElem h2)
      (first | refine Ret.sameE (Nat.le_refl _) (by assumption) ?_ | refine Ret.dropE (by assumption) (Nat.le_refl _) (by assumption) (by simp [AV.ok, AV.ok1, AC.ok]) ?_) <;> simp [this]
  · have : l ≠ m := by rintro rfl; exact hlen rfl
    refine acalls Tryz.func42 rfl (by kernel_rfl) (by simp (disch := first | omega | (simp only [go_sem]; first | done | omega)) only [go_sem]) (fun hH => ?_)
    simp (disch := first | omega | (simp only [go_sem]; first | done | omega)) only [go_sem]
    (first | refine Ret.sameE (Nat.le_refl _) (by assumption) ?_ | refine Ret.dropE (by assumption) (Nat.le_refl _) (by assumption) (by simp [AV.ok, AV.ok1, AC.ok]) ?_) <;> simp [this]
theorem cplG_leF {α : Type} [DecidableEq α] : ∀ (t : List α) (x : α), (cplG x t).length ≤ t.length
  | [], _ => Nat.le_refl _
  | y :: t, x => by
    have := cplG_leF t y
    unfold cplG
    rw [List.length_append, List.length_cons]
    split
    · simp only [List.length_nil]; omega
    · simp only [List.length_cons, List.length_nil]; omega
theorem cplF_leF {α : Type} [DecidableEq α] (l : List α) : (cplF l).length ≤ l.length := by
  cases l with
  | nil => exact Nat.le_refl _
  | cons x t =>
    have := cplG_leF t x
    unfold cplF
    simp only [List.length_cons]
    omega
theorem tagsE_len (e : Ex) : (tagsE e).length ≤ szE e := by
  have h1 := cplF_leF (srtS (nmsE e))
  have h2 := srtS_len (nmsE e)
  have h3 := nmsE_len e
  unfold tagsE
  omega
theorem par_neK {l : List UInt8} {a c : Int} (h : parF l = .error (a, c)) : c ≠ 0 := by
  unfold parF at h
  repeat' split at h
  all_goals first | (cases h; done) | (injection h with h; injection h with h1 h2; omega)
theorem checkFault_a (l : List UInt8) (hl : l.length ≤ 1000000) (hk : K (.c (.int .i64 ((chkF l).2))) H) : ACalls Tryz.prog 39 [(.c (.str (tB l)))] H K := by
  refine acalls Tryz.func39 rfl (by kernel_rfl) (by simp (disch := first | omega | (simp only [go_sem]; first | done | omega)) only [go_sem]) (fun hH => ?_)
  simp (disch := first | omega | (simp only [go_sem]; first | done | omega)) only [go_sem]
  refine checkOf_a l hl ?_
  simp (disch := first | omega | (simp only [go_sem]; first | done | omega)) only [go_sem]
  exact Ret.same (Nat.le_refl _) hk
theorem formatsAreEqual_a (zs : List Int) (hz : zs.length ≤ 9223372036854775807) (hk : K (.c (.bool true)) H) : ACalls Tryz.prog 6 [.c (.lst 1 (zs.map encI))] H K := by
  have st : ∀ (k : Int) (L : Hp), 0 ≤ k → k ≤ 1000000000 → Str (H ++ strO zs k :: L) H.length zs k := fun k L h1 h2 => ⟨hz, h1, by omega, by simp⟩
  refine acalls Tryz.func6 rfl (by kernel_rfl) (by simp (disch := first | omega | (simp only [go_sem]; first | done | omega)) only [go_sem]) (fun hH => ?_)
  simp (disch := first | omega | (simp only [go_sem]; first | done | omega)) only [go_sem]
  refine range_a H.length zs 0 0 3 (st _ _ (by omega) (by omega)) (by omega) (by omega) (by omega) (fun d hd0 hd1 => ?_)
  obtain ⟨e0, rfl⟩ : ∃ e : Nat, d = e := ⟨d.toNat, by omega⟩
  have he0 : e0 ≤ 3 := by omega
  have hJ := eJ_le he0
  have hB : eB e0 ≤ 250 := by
    have : e0 = 0 ∨ e0 = 1 ∨ e0 = 2 ∨ e0 = 3 := by omega
    rcases this with rfl | rfl | rfl | rfl <;> decide
  simp (disch := first | omega | (simp only [go_sem]; first | done | omega)) only [go_sem]
  refine expr_a e0 he0 _ H.length zs (0 + 1) (st _ _ (by omega) (by omega)) (by omega) (fun r j1 g1 g2 g3 => ?_)
  obtain ⟨l, rfl⟩ : ∃ l, r = tB l := ⟨tL r, rfl⟩
  rw [tB_size] at g3
  have hl : l.length ≤ 250 := by omega
  simp (disch := first | omega | (simp only [go_sem]; first | done | omega)) only [go_sem]
  refine seriesList_a H.length zs j1 (st _ _ (by omega) (by omega)) (by omega) (fun ss j2 g4 g5 g6 g7 => ?_)
  simp (disch := first | omega | (simp only [go_sem]; first | done | omega)) only [go_sem]
  refine range_a H.length zs j2 0 200 (st _ _ (by omega) (by omega)) (by omega) (by omega) (by omega) (fun m hm0 hm1 => ?_)
  have hne : ∀ (l : List UInt8) a c, parF l = .error (a, c) → c ≠ 0 := fun l a c h => par_neK h
  simp (disch := first | omega | (simp only [go_sem]; first | done | omega)) only [go_sem]
  refine formatP_a l (by omega) (hne l) ?_
  cases hp : parF l with
  | error x =>
    obtain ⟨a, c⟩ := x
    have hc := hne l a c hp
    have hR : rstF l = ([], a, c) := by unfold rstF; rw [hp]
    have hC : chkF l = (a, c) := by unfold chkF; rw [hp]
    rw [hR]
    simp (disch := first | omega | (simp only [go_sem]; first | done | omega)) only [go_sem, hc]
    refine checkFault_a l (by omega) ?_
    rw [hC]
    simp (disch := first | omega | (simp only [go_sem]; first | done | omega)) only [go_sem]
    refine ready_a ?_
    simp (disch := first | omega | (simp only [go_sem]; first | done | omega)) only [go_sem]
    exact Ret.drop hH (Nat.le_refl _) trivial hk
  | ok e =>
    obtain ⟨q1, q2⟩ := par_again hp hl
    have hs := par_sz hp
    have htl := tagsE_len e
    have hR : rstF l = (fmtB e, 0, 0) := by unfold rstF; rw [hp]; exact if_neg (by omega)
    have hR2 : rstF (fmtB e) = (fmtB e, 0, 0) := by unfold rstF; rw [q1]; exact if_neg (by omega)
    have hE : evRes (fmtB e) ss m = evRes l ss m := by unfold evRes; rw [hp, q1]
    rw [hR]
    simp (disch := first | omega | (simp only [go_sem]; first | done | omega)) only [go_sem]
    refine formatP_a (fmtB e) (by omega) (hne _) ?_
    rw [hR2]
    simp (disch := first | omega | (simp only [go_sem]; first | done | omega)) only [go_sem]
    refine tagsP_a l (by omega) (hne l) (fun e' he' => ?_) (fun a c h' => by rw [hp] at h'; cases h')
    rw [hp] at he'
    injection he' with he'
    subst he'
    simp (disch := first | omega | (simp only [go_sem]; first | done | omega)) only [go_sem]
    refine tagsP_a (fmtB e) (by omega) (hne _) (fun e' he' => ?_) (fun a c h' => by rw [q1] at h'; cases h')
    rw [q1] at he'
    injection he' with he'
    subst he'
    simp (disch := first | omega | (simp only [go_sem]; first | done | omega)) only [go_sem]
    refine depth_a l (by omega) (fun e' he' => ?_) (fun a c h' => by rw [hp] at h'; cases h') (hne l)
    rw [hp] at he'
    injection he' with he'
    subst he'
    simp (disch := first | omega | (simp only [go_sem]; first | done | omega)) only [go_sem]
    refine depth_a (fmtB e) (by omega) (fun e' he' => ?_) (fun a c h' => by rw [q1] at h'; cases h') (hne _)
    rw [q1] at he'
    injection he' with he'
    subst he'
    simp (disch := first | omega | (simp only [go_sem]; first | done | omega)) only [go_sem]
    refine evalTop_a l ss m (by omega) (hne l) (by omega) (fun x hx => (g7 x hx).1) ?_
    simp (disch := first | omega | (simp only [go_sem]; first | done | omega)) only [go_sem]
    refine evalTop_a (fmtB e) ss m (by omega) (hne _) (by omega) (fun x hx => (g7 x hx).1) ?_
    rw [hE]
    generalize evRes l ss m = R at *
    generalize tagsE e = M at *
    simp (disch := first | omega | (simp only [go_sem]; first | done | omega)) only [go_sem]
    refine errsK_lit [0, 0, 0, 0, 0] (by first | ((repeat first | exact at0 (by simp) | refine atS ?_); done) | assumption) rfl rfl (by simp) ?_
    rw [show firstE ([0, 0, 0, 0, 0] : List Int) = 0 from rfl]
    simp (disch := first | omega | (simp only [go_sem]; first | done | omega)) only [go_sem]
    refine equalSe_a M M (by omega) (by omega) ?_
    rw [decide_eq_true rfl]
    simp (disch := first | omega | (simp only [go_sem]; first | done | omega)) only [go_sem]
    refine ready_a ?_
    simp (disch := first | omega | (simp only [go_sem]; first | done | omega)) only [go_sem]
    exact Ret.drop hH (Nat.le_refl _) trivial hk
end Go.Proofs.YtflklkijfkmeiaaGreatDoor
