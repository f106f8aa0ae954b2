/- retain.Read. Condition: the text is no longer than a machine holds. -/
import Derived.Test.YtebhpfhichdgaaaGreatDoorHVBtxM
import Derived.Test.YtebhpfhichdgaaaGreatDoorHVTxtG
namespace Go.Proofs.YtebhpfhichdgaaaGreatDoor
open Go Go.RowKit
set_option maxRecDepth 100000
set_option linter.all false
set_option maxHeartbeats 4000000
variable {H : Hp} {K : AV → Hp → Prop}
theorem appBn {i q ty : Nat} {own : Bool} {J : AV → Hp → Prop} (l : List Bin) (x : Bin) (l2 : List Bin) (e : l2 = l ++ [x]) (hi : H[i]? = some (grO 39 6 (l.map encN))) (hj : H[q]? = some (.row ty 6 [encN x] own)) (hb : l.length ≤ 1000000000)
    (h : J (.c (grV H.length l2)) (H.set i .dead ++ [grO 39 6 (l2.map encN)])) : aBuiltin Tryz.prog .append #[27, 27] [.c (grV i l), .c (.sl (some (q, 0)) 1)] H J := by
  subst e
  exact app_grR (enc := encN) (e := 39) (sz := 6) (bs := 48) (z := [.int .i64 0, .int .i64 0, .int .i64 0, .int .i64 0, .int .i64 0, .int .i64 0]) l [x] (by kernel_rfl) (by kernel_rfl) (by kernel_rfl) (by kernel_rfl) hi (by rw [hj]; rfl) (by simp) rfl (by decide) (by simp; omega) (by simp; omega) h
theorem rdB_bad {l : List UInt8} (h : ¬ ((splitL 32 l).length = 6 ∧ ∀ w ∈ splitL 32 l, (rdN w).isSome = true)) : rdB l = none := by
  unfold rdB
  rw [if_neg h]
theorem readFnB_a {A : Hp} (hA : HOk A) (l : List Bin) (x : List UInt8) (hx : x.length ≤ 1000000) (hl : l.length ≤ 1000001)
    (hk1 : goodB x = true → K (.c (.bool true)) (A ++ [.row 27 1 [[grV (A.length + 2) ((l ++ [(rdB x).getD ⟨0, 0, 0, 0, 0, 0⟩]).map encN)]] true, .dead, grO 39 6 ((l ++ [(rdB x).getD ⟨0, 0, 0, 0, 0, 0⟩]).map encN)]))
    (hk2 : goodB x = false → ∀ G, 1 ≤ G.length → K (.c (.bool false)) (A ++ G)) : ACalls Tryz.prog 86 [.c (.str (tB x)), .c (.ptr (some (A.length, 0, 0)))] (A ++ accO 27 39 6 (A.length + 1) (l.map encN)) K := by
  have hmem := splitL_mem 32 x
  refine acalls Tryz.func86 rfl (by kernel_rfl) (by simp (disch := first | omega | (simp only [go_sem]; first | done | omega)) only [go_sem]) (fun hH => ?_)
  simp (disch := first | omega | (simp only [go_sem]; first | done | omega)) only [go_sem]
  refine wordsP_a x 6 hx ?_
  by_cases hw : (splitL 32 x).length = 6 ∧ [] ∉ splitL 32 x
  · rw [if_pos hw, decide_eq_true hw]
    unfold accO
    simp (disch := first | omega | (simp only [go_sem]; first | done | omega)) only [go_sem]
    refine nums19_a (splitL 32 x) (by omega) (fun w hw => by have := hmem w hw; omega) (fun hall => ?_) (fun hall => ?_)
    · have hr : rdB x = some (mk6 (numN (splitL 32 x))) := by unfold rdB; rw [if_pos ⟨hw.1, hall⟩]
      obtain ⟨a, b, c, d, e, f, hn⟩ := numN_six hw.1 hall
      rw [hn] at hr ⊢
      have hg : goodB x = true := by unfold goodB; rw [hr]; rfl
      have hk := hk1 hg
      rw [hr] at hk
      obtain ⟨z, hz⟩ : ∃ z : Bin, z = ⟨a, b, c, d, e, f⟩ := ⟨_, rfl⟩
      have hk : K (.c (.bool true)) (A ++ [.row 27 1 [[grV (A.length + 2) ((l ++ [z]).map encN)]] true, .dead, grO 39 6 ((l ++ [z]).map encN)]) := by rw [hz]; exact hk
      obtain ⟨l2, hl2⟩ : ∃ l2, l2 = l ++ [z] := ⟨_, rfl⟩
      rw [← hl2] at hk
      simp (disch := first | omega | (simp only [go_sem]; first | done | omega)) only [go_sem]
      refine w_tree (.one 0 (.one 1 (.one 2 (.one 3 (.one 4 (.one 5 (.one 6 (.one 7 (.one 8 (.one 9 (.one 10 (.one 11 (.one 12 (.one 13 (.one 14 (.one 15 (.one 16 (.one 17 (.one 18 (.one 19 (.one 20 (.one 21 (.one 22 .done))))))))))))))))))))))) (by kernel_rfl) (by decide +kernel) ?_
      simp (disch := first | omega | (simp only [go_sem]; first | done | omega)) only [go_sem]
      rw [map_grV]
      refine appBn l z l2 hl2 (at1 (by simp)) (q := A.length + 2) (ty := 39) (own := true) (by rw [hz]; exact at2 (by simp)) (by omega) ?_
      simp (disch := first | omega | (simp only [go_sem]; first | done | omega)) only [go_sem]
      intro _ _
      have hid : ∀ j, j < 2 → ([0, 1, 3] : List Nat).getD j 0 = j := by decide
      refine ⟨_, _, WkL.pickR (vs' := [(.c (.bool true))]) [0, 1, 3] 2 (L := [.row 27 1 [[grV (A.length + 2) (l2.map encN)]] true, .dead, grO 39 6 (l2.map encN)]) hA (Nat.le_refl _) (by simp) hid ?_ (by decide) ?_ ?_ ?_, hk⟩
      · simp only [List.map_cons, List.map_nil, row_ren, grV_ren, map_grV]
        rw [grO_ren _ _ _ (pureL_encN l2), pickS_add]
        rfl
      · intro o ho
        simp only [List.mem_cons, List.not_mem_nil, or_false] at ho
        rcases ho with rfl | rfl | rfl
        · intro e he
          simp only [List.mem_cons, List.not_mem_nil, or_false] at he
          subst he
          refine ⟨rfl, fun x hx => ?_⟩
          simp only [List.mem_cons, List.not_mem_nil, or_false] at hx
          subst hx
          exact grV_ok (by simp) _
        · trivial
        · exact okN_grO (fun x => by simp [go_sem, AC.pure])
      · rfl
      · intro x hx
        rw [List.mem_singleton] at hx
        subst hx
        simp [AV.ok, AV.ok1, AC.ok]
    · have hg : goodB x = false := by unfold goodB; rw [rdB_bad (fun h => hall h.2)]; rfl
      simp (disch := first | omega | (simp only [go_sem]; first | done | omega)) only [go_sem]
      exact Ret.same (by simp) (hk2 hg _ (by simp))
  · rw [if_neg hw, decide_eq_false hw]
    have hg : goodB x = false := by
      unfold goodB
      rw [rdB_bad (fun h => hw ⟨h.1, fun hm => by have := h.2 _ hm; rw [rdN_nil] at this; cases this⟩)]
      rfl
    simp (disch := first | omega | (simp only [go_sem]; first | done | omega)) only [go_sem]
    exact Ret.same (by simp [accO]) (hk2 hg _ (by simp [accO]))
def okB (L : List (List UInt8)) : Nat := okC goodB L
def txtB (step : Int) (text : List UInt8) : List Bin × Int × Int :=
  if ¬ isStep step then ([], 0, 1)
  else if 200000 < text.length then ([], 0, 2)
  else if okB (lnsF text) < (lnsF text).length then ([], okB (lnsF text), 9)
  else if remF text ≠ [] then ([], (lnsF text).length, 9)
  else if bnF ((lnsF text).filterMap rdB) step ≠ 0 then ([], 0, bnF ((lnsF text).filterMap rdB) step)
  else ((lnsF text).filterMap rdB, 0, 0)
theorem ssB_all : ∀ (M : List (List UInt8)), okC goodB M = M.length → ssB M M.length = M.filterMap rdB
  | [], _ => rfl
  | x :: t, h => by
    unfold okC at h
    rw [List.takeWhile_cons] at h
    by_cases hx : goodB x = true
    · rw [if_pos hx, List.length_cons, List.length_cons] at h
      have ih := ssB_all t (by unfold okC; omega)
      obtain ⟨y, hy⟩ := Option.isSome_iff_exists.1 hx
      unfold ssB at ih ⊢
      rw [List.take_length] at ih ⊢
      rw [List.map_cons, ih, List.filterMap_cons, hy]
      rfl
    · rw [if_neg hx] at h
      simp at h
theorem readB_a (step : Int) (l : List UInt8) (hl : l.length ≤ 1000000) (hk : K (.tup [.c (.lst 6 ((txtB step l).1.map encN)), (.c (.int .i64 ((txtB step l).2.1))), (.c (.int .i64 ((txtB step l).2.2)))]) H) : ACalls Tryz.prog 16 [(.c (.int .i64 step)), (.c (.str (tB l)))] H K := by
  have hsz := tB_size l
  unfold txtB at hk
  by_cases h0 : isStep step
  case neg =>
    rw [if_pos h0] at hk
    refine acalls Tryz.func16 rfl (by kernel_rfl) (by simp (disch := first | omega | (simp only [go_sem]; first | done | omega)) only [go_sem]) (fun hH => ?_)
    simp (disch := first | omega | (simp only [go_sem]; first | done | omega)) only [go_sem]
    refine isStep_a _ _ step ?_
    rw [decide_eq_false h0]
    simp (disch := first | omega | (simp only [go_sem]; first | done | omega)) only [go_sem]
    have := Ret.nilT (G := []) (sz := 6) hH (Nat.le_refl _) rfl hk
    rwa [List.append_nil] at this
  rw [if_neg (by simpa using h0)] at hk
  by_cases h1 : 200000 < l.length
  · rw [if_pos h1] at hk
    refine acalls Tryz.func16 rfl (by kernel_rfl) (by simp (disch := first | omega | (simp only [go_sem]; first | done | omega)) only [go_sem]) (fun hH => ?_)
    simp (disch := first | omega | (simp only [go_sem]; first | done | omega)) only [go_sem]
    refine isStep_a _ _ step ?_
    rw [decide_eq_true h0]
    simp (disch := first | omega | (simp only [go_sem]; first | done | omega)) only [go_sem, hsz, h1]
    have := Ret.nilT (G := []) (sz := 6) hH (Nat.le_refl _) rfl hk
    rwa [List.append_nil] at this
  rw [if_neg h1] at hk
  have hlen := lns_len l
  refine acalls Tryz.func16 rfl (by kernel_rfl) (by simp (disch := first | omega | (simp only [go_sem]; first | done | omega)) only [go_sem]) (fun hH => ?_)
  simp (disch := first | omega | (simp only [go_sem]; first | done | omega)) only [go_sem]
  refine isStep_a _ _ step ?_
  rw [decide_eq_true h0]
  simp (disch := first | omega | (simp only [go_sem]; first | done | omega)) only [go_sem, hsz, h1]
  refine each_a hH 86 27 39 6 l hl goodB (fun k => (ssB (lnsF l) k).map encN) rfl (fun k => pureL_encN _) (fun k n => okN_grO (fun x => by simp [go_sem, AC.pure])) (by kernel_rfl) (fun k x hx hg K' hK' => ?_) (fun k x hx hg K' hK' => ?_) (fun hall hend => ?_) (fun hbad G hG => ?_)
  · have hxl := lns_mem l x (List.mem_of_getElem? hx)
    have hkl : (ssB (lnsF l) k).length ≤ k := by unfold ssB; rw [List.length_map, List.length_take]; omega
    have hkk := getElem?_lt hx
    rw [ssB_next hx] at hK'
    exact readFnB_a hH (ssB (lnsF l) k) x (by omega) (by omega) (fun _ => hK') (fun h => by rw [hg] at h; cases h)
  · have hxl := lns_mem l x (List.mem_of_getElem? hx)
    have hkl : (ssB (lnsF l) k).length ≤ k := by unfold ssB; rw [List.length_map, List.length_take]; omega
    have hkk := getElem?_lt hx
    exact readFnB_a hH (ssB (lnsF l) k) x (by omega) (by omega) (fun h => by rw [hg] at h; cases h) (fun _ => hK')
  · have hrem : remF l = [] := of_decide_eq_true hend
    rw [ssB_all _ hall]
    have hok : ¬ okB (lnsF l) < (lnsF l).length := by unfold okB; omega
    rw [if_neg hok, if_neg (by simp [hrem])] at hk
    have hfl := List.length_filterMap_le rdB (lnsF l)
    generalize (lnsF l).filterMap rdB = S at *
    unfold accO
    simp (disch := first | omega | (simp only [go_sem]; first | done | omega)) only [go_sem]
    rw [map_grV]
    refine ACalls.frzGr (els := S.map encN) (by first | ((repeat first | exact at0 (by simp) | refine atS ?_); done) | assumption) (by simp) (pureL_encN S) rfl ?_
    refine checkBins_a S step (by omega) ?_
    by_cases h2 : bnF S step = 0
    · rw [if_neg (by simp [h2])] at hk
      rw [h2]
      simp (disch := first | omega | (simp only [go_sem]; first | done | omega)) only [go_sem]
      exact Ret.frzFT (ty := 39) 1 hH (Nat.le_refl _) rfl (pureL_encN S) rfl (map_grV _ _ _).symm hk
    · rw [if_pos h2] at hk
      simp (disch := first | omega | (simp only [go_sem]; first | done | omega)) only [go_sem, h2]
      exact Ret.nilT hH (Nat.le_refl _) rfl hk
  · have hle := okC_le goodB (lnsF l)
    by_cases h3 : okB (lnsF l) < (lnsF l).length
    · rw [if_pos h3] at hk
      simp (disch := first | omega | (simp only [go_sem]; first | done | omega)) only [go_sem]
      exact Ret.nilT hH (Nat.le_refl _) rfl hk
    · rw [if_neg h3] at hk
      unfold okB at h3
      have h4 : okC goodB (lnsF l) = (lnsF l).length := by omega
      have h5 : remF l ≠ [] := fun e => hbad ⟨h4, decide_eq_true e⟩
      rw [if_pos h5] at hk
      simp (disch := first | omega | (simp only [go_sem]; first | done | omega)) only [go_sem]
      rw [h4]
      exact Ret.nilT hH (Nat.le_refl _) rfl hk
end Go.Proofs.YtebhpfhichdgaaaGreatDoor
