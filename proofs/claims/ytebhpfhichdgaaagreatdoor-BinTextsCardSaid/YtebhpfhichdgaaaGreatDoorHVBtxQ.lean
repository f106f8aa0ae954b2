/- logref2.BinsRead. Condition: the text is no longer than a machine holds. -/
import Derived.Test.YtebhpfhichdgaaaGreatDoorHVBtxF
import Derived.Test.YtebhpfhichdgaaaGreatDoorHVTxtK
namespace Go.Proofs.YtebhpfhichdgaaaGreatDoor
open Go Go.RowKit
set_option maxRecDepth 100000
set_option linter.all false
set_option maxHeartbeats 4000000
variable {H : Hp} {K : AV → Hp → Prop}
theorem pickI3 {A G : Hp} {m ty ty2 j q : Nat} {L : List Bin} {T : List Int} (r : Int) (hA : HOk A) (hm : m ≤ A.length + 2) (h0 : G[0]? = some (.row ty 1 [[grV (A.length + 1) L]] true)) (hL : G[1]? = some (grO ty2 6 (L.map encN))) (hj : j = A.length + q) (hq : G[q]? = some (grO 3 1 (T.map encI))) (h1 : 2 ≤ q) :
    WkL m [(.c (.int .i64 r)), .c (grV j T)] (A ++ G) [(.c (.int .i64 r)), .c (grV (A.length + 2) T)] (A ++ [.row ty 1 [[grV (A.length + 1) L]] true, grO ty2 6 (L.map encN), grO 3 1 (T.map encI)]) := by
  subst hj
  have hpT : pureL (T.map encI) = true := pureL_map _ (fun x => by simp [go_sem, AC.pure])
  have hid : ∀ j, j < 2 → ([0, 1, q] : List Nat).getD j 0 = j := fun j hj => by
    match j, hj with
    | 0, _ => rfl
    | 1, _ => rfl
  refine WkL.pickR [0, 1, q] 2 hA hm (by simp) hid ?_ (by simp; omega) ?_ ?_ ?_
  · simp only [List.map_cons, List.map_nil, row_ren, grV_ren]
    rw [grO_ren _ _ _ hpT, grO_ren _ _ _ (pureL_encN L), h0, hL, hq, pickS_add]
    rfl
  · intro o ho
    simp only [List.mem_cons, List.not_mem_nil, or_false] at ho
    rcases ho with rfl | rfl | rfl
    · intro e he
      simp only [List.mem_cons, List.not_mem_nil, or_false] at he
      subst he
      refine ⟨rfl, fun x hx => ?_⟩
      simp only [List.mem_cons, List.not_mem_nil, or_false] at hx
      subst hx
      exact grV_ok (by simp) _
    · exact okN_grO (fun x => by simp [go_sem, AC.pure])
    · exact okN_grO (fun x => by simp [go_sem, AC.pure])
  · simp only [List.map_cons, List.map_nil, av_ren_gr]
    rw [pickS_add]
    rfl
  · intro v hv
    simp only [List.mem_cons, List.not_mem_nil, or_false] at hv
    rcases hv with rfl | rfl
    · trivial
    · exact grV_ok (by simp) _
theorem readQB_a {A : Hp} (hA : HOk A) (l : List Bin) (x : List UInt8) (hx : x.length ≤ 999000) (hl : l.length ≤ 1000001)
    (hk1 : goodB x = true → K (.c (.bool true)) (A ++ [.row 27 1 [[grV (A.length + 2) ((l ++ [(rdB x).getD ⟨0, 0, 0, 0, 0, 0⟩]).map encN)]] true, .dead, grO 39 6 ((l ++ [(rdB x).getD ⟨0, 0, 0, 0, 0, 0⟩]).map encN)]))
    (hk2 : goodB x = false → ∀ G, 1 ≤ G.length → K (.c (.bool false)) (A ++ G)) : ACalls Tryz.prog 90 [.c (.str (tB x)), .c (.ptr (some (A.length, 0, 0)))] (A ++ accO 27 39 6 (A.length + 1) (l.map encN)) K := by
  have hmem := splitL_mem 32 x
  have hlen := splitL_le 32 x
  unfold accO
  refine acalls Tryz.func90 rfl (by kernel_rfl) (by simp (disch := first | omega | (simp only [go_sem]; first | done | omega)) only [go_sem]) (fun hH => ?_)
  simp (disch := first | omega | (simp only [go_sem]; first | done | omega)) only [go_sem]
  refine splitS_a x 32 (by omega) ?_
  obtain ⟨ws, hws⟩ : ∃ ws, ws = splitL 32 x := ⟨_, rfl⟩
  rw [← hws] at hmem hlen ⊢
  have hml : (ws.map encTx).length = ws.length := List.length_map ..
  by_cases h6 : ws.length = 6
  case neg =>
    have h6' : ¬ (ws.length : Int) = 6 := by omega
    have hg : goodB x = false := by
      unfold goodB
      rw [rdB_bad (fun h => h6 (by rw [hws]; exact h.1))]
      rfl
    simp (disch := first | omega | (simp only [go_sem]; first | done | omega)) only [go_sem, hml, h6']
    exact Ret.same (by simp) (hk2 hg _ (by simp))
  have h6' : (ws.length : Int) = 6 := by omega
  simp (disch := first | omega | (simp only [go_sem]; first | done | omega)) only [go_sem, hml, h6']
  rw [map_grV]
  refine AWp.loop (A.length + 2) [1, 15, 16] [17, 5] (fun (k : Nat) => k ≤ ws.length ∧ (∀ w ∈ ws.take k, (rdN w).isSome = true) ∧ (numN (ws.take k)).length ≤ k) (fun (k : Nat) => [(17, (.c (.int .i64 k))), (5, .c (grV (A.length + 2) (numN (ws.take k))))]) (fun (k : Nat) => A ++ [.row 27 1 [[grV (A.length + 1) l]] true, grO 39 6 (l.map encN), grO 3 1 ((numN (ws.take k)).map encI)]) (fun (k : Nat) => ws.length - k) (by kernel_rfl) (fun _ => rfl) (by kernel_rfl) (by first | (simp; done) | omega) (by first | (simp; done) | (simp; omega) | omega) kl ?_ (fun k q _ _ => ?_)
  · refine Next.mk 0 ⟨Nat.zero_le _, by simp, by simp [numN]⟩ ?_
    exact WkL.padP [_, _] (by simp)
  obtain ⟨q1, q2, q3⟩ := q
  by_cases hlt : k < ws.length
  · have hlt' : (k : Int) < 6 := by omega
    have hwm : ws[k] ∈ splitL 32 x := by rw [← hws]; exact List.getElem_mem hlt
    have hwl := hmem ws[k] (List.getElem_mem hlt)
    have hsz := tB_size ws[k]
    have hbad : rdN ws[k] = none → goodB x = false := fun h => by
      unfold goodB
      rw [rdB_bad (fun h' => by have := h'.2 _ hwm; rw [h] at this; cases this)]
      rfl
    simp (disch := first | omega | (simp only [go_sem]; first | done | omega)) only [go_sem, hml, h6', hlt, hlt', getElem_tx hlt]
    refine atoiAny_a (tB ws[k]) (by omega) (fun v hv => ?_) (fun hv v => ?_)
    · rw [show (tB ws[k]).data.toList = ws[k] from tL_tB _] at hv
      obtain ⟨_, b1, b2⟩ := all_atoi hv
      simp (disch := first | omega | (simp only [go_sem]; first | done | omega)) only [go_sem]
      refine itoa_a v (by omega) (by omega) ?_
      rw [show (⟨(Lib.itoa v).toArray⟩ : ByteArray) = tB (Lib.itoa v) from rfl]
      by_cases he : Lib.itoa v = ws[k]
      · have hn : rdN ws[k] = some v := by unfold rdN; rw [hv]; simp [he]
        have hnx := numN_next hlt hn
        have hd : decide (tB (Lib.itoa v) = tB ws[k]) = true := decide_eq_true (by rw [he])
        generalize numN (ws.take k) = L at *
        simp (disch := first | omega | (simp only [go_sem]; first | done | omega)) only [go_sem, hd]
        refine appIx L v _ hnx (by first | ((repeat first | exact at0 (by simp) | refine atS ?_); done) | assumption) (by first | ((repeat first | exact at0 (by simp) | refine atS ?_); done) | assumption) (by omega) ?_
        simp (disch := first | omega | (simp only [go_sem]; first | done | omega)) only [go_sem]
        refine Next.mk (k + 1) ⟨⟨by omega, ?_, by rw [hnx, List.length_append, List.length_singleton]; omega⟩, by omega⟩ ?_
        · rw [List.take_succ_eq_append_getElem hlt]
          intro w hw
          rcases List.mem_append.1 hw with h | h
          · exact q2 w h
          · rw [List.mem_singleton.1 h, hn]; rfl
        · simp (disch := first | omega | (simp only [go_sem]; first | done | omega)) only [go_sem]
          exact pickI3 (q := 4) _ hA (Nat.le_refl _) rfl rfl (by first | rfl | omega) rfl (by omega)
      · have hn : rdN ws[k] = none := by unfold rdN; rw [hv]; simp [he]
        have hd : decide (tB (Lib.itoa v) = tB ws[k]) = false := decide_eq_false (fun e => he (tB_inj.1 e))
        simp (disch := first | omega | (simp only [go_sem]; first | done | omega)) only [go_sem, hd]
        exact Ret.same (by simp) (hk2 (hbad hn) _ (by simp))
    · rw [show (tB ws[k]).data.toList = ws[k] from tL_tB _] at hv
      have hn : rdN ws[k] = none := by
        unfold rdN
        split
        · rename_i u hu; exact absurd hu (hv u)
        · rfl
      simp (disch := first | omega | (simp only [go_sem]; first | done | omega)) only [go_sem]
      exact Ret.same (by simp) (hk2 (hbad hn) _ (by simp))
  · have hkl : k = ws.length := by omega
    subst hkl
    rw [List.take_length] at q2 ⊢
    have hr : rdB x = some (mk6 (numN ws)) := by unfold rdB; rw [← hws, if_pos ⟨h6, q2⟩]
    obtain ⟨a, b, c, d, e, f, hn⟩ := numN_six h6 q2
    rw [hn] at hr ⊢
    have hg : goodB x = true := by unfold goodB; rw [hr]; rfl
    have hk := hk1 hg
    rw [hr] at hk
    obtain ⟨z, hz⟩ : ∃ z : Bin, z = ⟨a, b, c, d, e, f⟩ := ⟨_, rfl⟩
    have hk : K (.c (.bool true)) (A ++ [.row 27 1 [[grV (A.length + 2) ((l ++ [z]).map encN)]] true, .dead, grO 39 6 ((l ++ [z]).map encN)]) := by rw [hz]; exact hk
    obtain ⟨l2, hl2⟩ : ∃ l2, l2 = l ++ [z] := ⟨_, rfl⟩
    rw [← hl2] at hk
    simp (disch := first | omega | (simp only [go_sem]; first | done | omega)) only [go_sem, hml, h6']
    refine w_tree (.one 0 (.one 1 (.one 2 (.one 3 (.one 4 (.one 5 (.one 6 (.one 7 (.one 8 (.one 9 (.one 10 (.one 11 (.one 12 (.one 13 (.one 14 (.one 15 (.one 16 (.one 17 (.one 18 (.one 19 (.one 20 (.one 21 (.one 22 .done))))))))))))))))))))))) (by kernel_rfl) (by decide +kernel) ?_
    simp (disch := first | omega | (simp only [go_sem]; first | done | omega)) only [go_sem]
    refine appBn l z l2 hl2 (at1 (by simp)) (q := A.length + 3) (ty := 39) (own := true) (by rw [hz]; exact at3 (by simp)) (by omega) ?_
    simp (disch := first | omega | (simp only [go_sem]; first | done | omega)) only [go_sem]
    intro _ _
    have hid : ∀ j, j < 2 → ([0, 1, 4] : List Nat).getD j 0 = j := by decide
    refine ⟨_, _, WkL.pickR (vs' := [(.c (.bool true))]) [0, 1, 4] 2 (L := [.row 27 1 [[grV (A.length + 2) (l2.map encN)]] true, .dead, grO 39 6 (l2.map encN)]) hA (Nat.le_refl _) (by simp) hid ?_ (by decide) ?_ ?_ ?_, hk⟩
    · simp only [List.map_cons, List.map_nil, row_ren, grV_ren, map_grV]
      rw [grO_ren _ _ _ (pureL_encN l2), pickS_add]
      rfl
    · intro o ho
      simp only [List.mem_cons, List.not_mem_nil, or_false] at ho
      rcases ho with rfl | rfl | rfl
      · intro e he
        simp only [List.mem_cons, List.not_mem_nil, or_false] at he
        subst he
        refine ⟨rfl, fun x hx => ?_⟩
        simp only [List.mem_cons, List.not_mem_nil, or_false] at hx
        subst hx
        exact grV_ok (by simp) _
      · trivial
      · exact okN_grO (fun x => by simp [go_sem, AC.pure])
    · rfl
    · intro x hx
      rw [List.mem_singleton] at hx
      subst hx
      simp [AV.ok, AV.ok1, AC.ok]
theorem readRB_a (step : Int) (l : List UInt8) (hl : l.length ≤ 990000) (hk : K (.tup [.c (.lst 6 ((txtB step l).1.map encN)), (.c (.int .i64 ((txtB step l).2.1))), (.c (.int .i64 ((txtB step l).2.2)))]) H) : ACalls Tryz.prog 17 [(.c (.int .i64 step)), (.c (.str (tB l)))] H K := by
  have hsz := tB_size l
  unfold txtB at hk
  by_cases h0 : isStep step
  case neg =>
    rw [if_pos h0] at hk
    refine acalls Tryz.func17 rfl (by kernel_rfl) (by simp (disch := first | omega | (simp only [go_sem]; first | done | omega)) only [go_sem]) (fun hH => ?_)
    simp (disch := first | omega | (simp only [go_sem]; first | done | omega)) only [go_sem]
    refine stepFault_a _ _ _ ?_
    rw [if_neg h0]
    simp (disch := first | omega | (simp only [go_sem]; first | done | omega)) only [go_sem]
    have := Ret.nilT (G := []) (sz := 6) hH (Nat.le_refl _) rfl hk
    rwa [List.append_nil] at this
  rw [if_neg (by simpa using h0)] at hk
  by_cases h1 : 200000 < l.length
  · rw [if_pos h1] at hk
    refine acalls Tryz.func17 rfl (by kernel_rfl) (by simp (disch := first | omega | (simp only [go_sem]; first | done | omega)) only [go_sem]) (fun hH => ?_)
    simp (disch := first | omega | (simp only [go_sem]; first | done | omega)) only [go_sem]
    refine stepFault_a _ _ _ ?_
    rw [if_pos h0]
    simp (disch := first | omega | (simp only [go_sem]; first | done | omega)) only [go_sem, hsz, h1]
    have := Ret.nilT (G := []) (sz := 6) hH (Nat.le_refl _) rfl hk
    rwa [List.append_nil] at this
  rw [if_neg h1] at hk
  have hlen := lns_len l
  refine acalls Tryz.func17 rfl (by kernel_rfl) (by simp (disch := first | omega | (simp only [go_sem]; first | done | omega)) only [go_sem]) (fun hH => ?_)
  simp (disch := first | omega | (simp only [go_sem]; first | done | omega)) only [go_sem]
  refine stepFault_a _ _ _ ?_
  rw [if_pos h0]
  simp (disch := first | omega | (simp only [go_sem]; first | done | omega)) only [go_sem, hsz, h1]
  refine linesQ_a hH 90 27 39 6 l hl goodB (fun k => (ssB (lnsF l) k).map encN) rfl (fun k => pureL_encN _) (fun k n => okN_grO (fun x => by simp [go_sem, AC.pure])) (by kernel_rfl) (fun k x hx hg K' hK' => ?_) (fun k x hx hg K' hK' => ?_) (fun hall hend => ?_) (fun hbad G hG => ?_)
  · have hxl := lns_mem l x (List.mem_of_getElem? hx)
    have hkl : (ssB (lnsF l) k).length ≤ k := by unfold ssB; rw [List.length_map, List.length_take]; omega
    have hkk := getElem?_lt hx
    rw [ssB_next hx] at hK'
    exact readQB_a hH (ssB (lnsF l) k) x (by omega) (by omega) (fun _ => hK') (fun h => by rw [hg] at h; cases h)
  · have hxl := lns_mem l x (List.mem_of_getElem? hx)
    have hkl : (ssB (lnsF l) k).length ≤ k := by unfold ssB; rw [List.length_map, List.length_take]; omega
    have hkk := getElem?_lt hx
    exact readQB_a hH (ssB (lnsF l) k) x (by omega) (by omega) (fun h => by rw [hg] at h; cases h) (fun _ => hK')
  · have hrem : remF l = [] := of_decide_eq_true hend
    rw [ssB_all _ hall]
    have hok : ¬ okB (lnsF l) < (lnsF l).length := by unfold okB; omega
    rw [if_neg hok, if_neg (by simp [hrem])] at hk
    have hfl := List.length_filterMap_le rdB (lnsF l)
    generalize (lnsF l).filterMap rdB = S at *
    unfold accO
    simp (disch := first | omega | (simp only [go_sem]; first | done | omega)) only [go_sem]
    rw [map_grV]
    refine ACalls.frzGr (els := S.map encN) (by first | ((repeat first | exact at0 (by simp) | refine atS ?_); done) | assumption) (by simp) (pureL_encN S) rfl ?_
    refine binsFault_a S step (by omega) ?_
    by_cases h2 : bnF S step = 0
    · rw [if_neg (by simp [h2])] at hk
      rw [h2]
      simp (disch := first | omega | (simp only [go_sem]; first | done | omega)) only [go_sem]
      exact Ret.frzFT (ty := 39) 1 hH (Nat.le_refl _) rfl (pureL_encN S) rfl (map_grV _ _ _).symm hk
    · rw [if_pos h2] at hk
      simp (disch := first | omega | (simp only [go_sem]; first | done | omega)) only [go_sem, h2]
      exact Ret.nilT hH (Nat.le_refl _) rfl hk
  · have hle := okC_le goodB (lnsF l)
    by_cases h3 : okB (lnsF l) < (lnsF l).length
    · rw [if_pos h3] at hk
      simp (disch := first | omega | (simp only [go_sem]; first | done | omega)) only [go_sem]
      exact Ret.nilT hH (Nat.le_refl _) rfl hk
    · rw [if_neg h3] at hk
      unfold okB at h3
      have h4 : okC goodB (lnsF l) = (lnsF l).length := by omega
      have h5 : remF l ≠ [] := fun e => hbad ⟨h4, decide_eq_true e⟩
      rw [if_pos h5] at hk
      simp (disch := first | omega | (simp only [go_sem]; first | done | omega)) only [go_sem]
      rw [h4]
      exact Ret.nilT hH (Nat.le_refl _) rfl hk
end Go.Proofs.YtebhpfhichdgaaaGreatDoor
