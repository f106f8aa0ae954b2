/- sample.Text. Condition: the series is right, or not. -/
import Derived.Test.YtebhpfhichdgaaaGreatDoorHVTxtC
import Derived.Test.YtebhpfhichdgaaaGreatDoorHVGF
namespace Go.Proofs.YtebhpfhichdgaaaGreatDoor
open Go Go.RowKit
set_option maxRecDepth 100000
set_option linter.all false
set_option maxHeartbeats 2000000
variable {H : Hp} {K : AV → Hp → Prop}
theorem textT_next {l : List Smp} {k : Nat} (h : k < l.length) : textT (l.take (k + 1)) = textT (l.take k) ++ (lineT l[k] ++ [10]) := by
  unfold textT
  rw [List.take_succ_eq_append_getElem h, List.flatMap_append]
  simp
theorem lineT_len {x : Smp} (ht : -1000000000000000 < x.t ∧ x.t < 1000000000000000) (hv : -1000000000000000 < x.v ∧ x.v < 1000000000000000) : (lineT x).length ≤ 43 := by
  have h1 := itoa_len ht
  have h2 := itoa_len hv
  have h3 := wordF_len x.q
  unfold lineT
  simp only [List.length_append, List.length_cons]
  omega
theorem app10 (l : List UInt8) : tB l ++ (⟨#[10]⟩ : ByteArray) = tB (l ++ [10]) := app_tB l [10]
theorem one10 : (#[10] : Array UInt8).size = 1 := rfl
def textR (l : List Smp) : List UInt8 × Int := if serF l ≠ 0 then ([], serF l) else if 200000 < (textT l).length then ([], 2) else (textT l, 0)
theorem bld_ren (σ : Nat → Nat) (i : Nat) (p : Bool) (j : Nat) (l : List UInt8) : (AObj.row 112 2 [[.ptr (if p then some (i, 0, 0) else none), grV j l]] true).ren σ = .row 112 2 [[.ptr (if p then some (σ i, 0, 0) else none), grV (σ j) l]] true := by
  rw [row_ren]
  simp only [List.map_cons, List.map_nil, grV_ren]
  cases p <;> rfl
theorem text_a (l : List Smp) (hl : l.length ≤ 1099511627776) (hk : K (.tup [.c (.str (tB (textR l).1)), (.c (.int .i64 ((textR l).2)))]) H) : ACalls Tryz.prog 58 [.c (.lst 3 (l.map encS))] H K := by
  unfold textR at hk
  by_cases h0 : serF l = 0
  case neg =>
    rw [if_pos h0] at hk
    refine acalls Tryz.func58 rfl (by kernel_rfl) (by simp (disch := first | omega | (simp only [go_sem]; first | done | omega)) only [go_sem]) (fun hH => ?_)
    simp (disch := first | omega | (simp only [go_sem]; first | done | omega)) only [go_sem]
    refine checkSeries_a l hl ?_
    simp (disch := first | omega | (simp only [go_sem]; first | done | omega)) only [go_sem, h0]
    exact Ret.same (Nat.le_refl _) hk
  rw [if_neg (by simp [h0])] at hk
  obtain ⟨s1, s2⟩ := serF_ok' h0
  refine acalls Tryz.func58 rfl (by kernel_rfl) (by simp (disch := first | omega | (simp only [go_sem]; first | done | omega)) only [go_sem]) (fun hH => ?_)
  simp (disch := first | omega | (simp only [go_sem]; first | done | omega)) only [go_sem]
  refine checkSeries_a l hl ?_
  simp (disch := first | omega | (simp only [go_sem]; first | done | omega)) only [go_sem, h0]
  refine AWp.loop (H.length + 1) [5, 13, 14] [15] (fun (k : Nat) => k ≤ l.length ∧ (textT (l.take k)).length ≤ 44 * k) (fun (k : Nat) => [(15, (.c (.int .i64 k)))]) (fun (k : Nat) => H ++ [bldO (decide (0 < k)) H.length (H.length + 1) (textT (l.take k)), grO 5 1 ((textT (l.take k)).map encU)]) (fun (k : Nat) => l.length - k) (by kernel_rfl) (fun _ => rfl) (by kernel_rfl) (by first | (simp; done) | omega) (by first | (simp; done) | (simp; omega) | omega) kl ?_ (fun k q _ _ => ?_)
  · refine Next.mk 0 ⟨Nat.zero_le _, by simp [textT]⟩ ?_
    simp (disch := first | omega | (simp only [go_sem]; first | done | omega)) only [go_sem]
    exact WkL.padP [_] (by simp)
  obtain ⟨q1, q2⟩ := q
  by_cases hlt : k < l.length
  · obtain ⟨g1, g2, g3, g4⟩ := smp_ok' (s2 l[k] (List.getElem_mem hlt))
    have hll := lineT_len (x := l[k]) (by omega) (by omega)
    have hnx := textT_next hlt
    simp (disch := first | omega | (simp only [go_sem]; first | done | omega)) only [go_sem, hlt]
    refine lineP_a l[k] (by omega) (by omega) ?_
    simp (disch := first | omega | (simp only [go_sem]; first | done | omega)) only [go_sem, app10, app_tB, tB_size, List.length_append, one10]
    have hq : (textT (l.take (k + 1))).length ≤ 44 * (k + 1) := by
      rw [hnx]
      simp only [List.length_append, List.length_singleton]
      omega
    generalize textT (l.take k) = T at *
    obtain ⟨T2, hT2⟩ : ∃ T2, T2 = textT (l.take (k + 1)) := ⟨_, rfl⟩
    rw [← hT2] at hnx
    have hsz := tB_size (lineT l[k] ++ [10])
    rw [List.length_append, List.length_singleton] at hsz
    refine write_a (i := H.length) (j := H.length + 1) (by omega) T (tB (lineT l[k] ++ [10])) (by omega) (by omega) (by omega) (by first | ((repeat first | exact at0 (by simp) | refine atS ?_); done) | assumption) (by first | ((repeat first | exact at0 (by simp) | refine atS ?_); done) | assumption) ?_
    rw [show T ++ (tB (lineT l[k] ++ [10])).data.toList = T2 by rw [hnx]; rfl]
    simp (disch := first | omega | (simp only [go_sem]; first | done | omega)) only [go_sem]
    refine Next.mk (k + 1) ⟨⟨by omega, hq⟩, by omega⟩ ?_
    rw [← hT2, show decide (0 < k + 1) = true by simp]
    refine WkL.pickR [0, 3] 1 (L := [bldO true H.length (H.length + 1) T2, grO 5 1 (T2.map encU)]) hH (by simp) (by simp) (by simp) ?_ (by decide) ?_ ?_ ?_
    · simp only [List.map_cons, List.map_nil]
      unfold bldO
      rw [bld_ren, grO_ren _ _ _ (pureL_U T2), pickS_zero, pickS_add]
      rfl
    · intro o ho
      simp only [List.mem_cons, List.not_mem_nil, or_false] at ho
      rcases ho with rfl | rfl
      · intro e he
        simp only [List.mem_cons, List.not_mem_nil, or_false] at he
        subst he
        refine ⟨rfl, fun x hx => ?_⟩
        simp only [List.mem_cons, List.not_mem_nil, or_false] at hx
        rcases hx with rfl | rfl
        · simp [AC.ok]
        · exact grV_ok (by simp) _
      · exact okN_grO (fun x => by simp [go_sem, AC.pure])
    · simp (disch := first | omega | (simp only [go_sem]; first | done | omega)) only [go_sem]
      rw [show ((k : Int) + 1) = ((k + 1 : Nat) : Int) by omega]
      rfl
    · simp (disch := first | omega | (simp only [go_sem]; first | done | omega)) only [go_sem]
      intro x hx
      rw [List.mem_singleton] at hx
      subst hx
      simp [AV.ok, AV.ok1, AC.ok]
  · have hkl : k = l.length := by omega
    subst hkl
    rw [List.take_length] at q2 ⊢
    simp (disch := first | omega | (simp only [go_sem]; first | done | omega)) only [go_sem]
    generalize textT l = T at *
    refine bldLen_a (i := H.length) (j := H.length + 1) T (by omega) (by first | ((repeat first | exact at0 (by simp) | refine atS ?_); done) | assumption) (by first | ((repeat first | exact at0 (by simp) | refine atS ?_); done) | assumption) ?_
    by_cases hbig : 200000 < T.length
    · rw [if_pos hbig] at hk
      simp (disch := first | omega | (simp only [go_sem]; first | done | omega)) only [go_sem, hbig]
      exact Ret.drop hH (Nat.le_refl _) (by simp [AV.ok, AV.ok1, AC.ok]) hk
    · rw [if_neg hbig] at hk
      simp (disch := first | omega | (simp only [go_sem]; first | done | omega)) only [go_sem, hbig]
      refine str_a (i := H.length) (m := H.length + 1) (by omega) T (by first | ((repeat first | exact at0 (by simp) | refine atS ?_); done) | assumption) (by first | ((repeat first | exact at0 (by simp) | refine atS ?_); done) | assumption) ?_
      simp (disch := first | omega | (simp only [go_sem]; first | done | omega)) only [go_sem]
      exact Ret.drop hH (Nat.le_refl _) (by simp [AV.ok, AV.ok1, AC.ok]) hk
end Go.Proofs.YtebhpfhichdgaaaGreatDoor
