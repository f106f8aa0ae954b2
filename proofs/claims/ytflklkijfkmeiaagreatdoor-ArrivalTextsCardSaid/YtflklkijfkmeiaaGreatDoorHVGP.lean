/- Several texts in one: Lines of arrivals, read: buffer, and what follows. No condition. -/
import Derived.Test.YtflklkijfkmeiaaGreatDoorHVTxaM
import Derived.Test.YtflklkijfkmeiaaGreatDoorHVTxtK
/- Lines of arrivals, read: buffer.readLine, Read$1. Condition: the line is no longer than a machine holds. -/
namespace Go.Proofs.YtflklkijfkmeiaaGreatDoor
open Go Go.RowKit
set_option maxRecDepth 100000
set_option linter.all false
set_option maxHeartbeats 4000000
variable {H : Hp} {K : AV → Hp → Prop}
theorem containsE_a (ws : List (List UInt8)) (hlen : ws.length ≤ 1000001) (hk : K (.c (.bool (decide ([] ∈ ws)))) H) : ACalls Tryz.prog 168 [.c (.lst 1 (ws.map encTx)), (.c (.str (⟨#[]⟩)))] H K := containsW_a ws [] hlen hk
theorem readLine_a (x : List UInt8) (hx : x.length ≤ 1000000) (hk : ∀ y : Arr, (∀ a, rdA x = some a → y = a) → K (.tup [.agg (encAr y), (.c (.bool ((rdA x).isSome)))]) H) : ACalls Tryz.prog 100 [(.c (.str (tB x)))] H K := by
  have hmem := splitL_mem 32 x
  have hlen := splitL_le 32 x
  have hbad : rdA x = none → K (.tup [.agg (encAr ⟨⟨#[]⟩, 0, ⟨0, ⟨#[]⟩, ⟨0, 0, 0⟩⟩⟩), (.c (.bool false))]) H := fun h => by
    have := hk ⟨⟨#[]⟩, 0, ⟨0, ⟨#[]⟩, ⟨0, 0, 0⟩⟩⟩ (fun a ha => by rw [h] at ha; cases ha)
    rw [h] at this
    exact this
  refine acalls Tryz.func100 rfl (by kernel_rfl) (by simp (disch := first | omega | (simp only [go_sem]; first | done | omega)) only [go_sem]) (fun hH => ?_)
  simp (disch := first | omega | (simp only [go_sem]; first | done | omega)) only [go_sem]
  refine wordsP_a x 7 hx ?_
  by_cases hw : (splitL 32 x).length = 7 ∧ [] ∉ splitL 32 x
  · rw [if_pos hw, decide_eq_true hw]
    obtain ⟨a, b, c, d, e, f, g, hs⟩ := seven hw.1
    have hrd : rdA x = rdAw [a, b, c, d, e, f, g] := by unfold rdA; rw [hs]
    have hwn := hw.2
    rw [hs] at hmem hlen hwn ⊢
    have hm : ∀ w ∈ [a, b, c, d, e, f, g], w.length ≤ 1000000 := fun w hw => by have := hmem w hw; omega
    have ha : a ≠ [] := fun h => hwn (by rw [h]; simp)
    have hd : d ≠ [] := fun h => hwn (by rw [h]; simp)
    simp (disch := first | omega | (simp only [go_sem]; first | done | omega)) only [go_sem]
    refine containsE_a [a, b, c, d, e, f, g] (by simp) ?_
    rw [decide_eq_false hwn]
    simp (disch := first | omega | (simp only [go_sem]; first | done | omega)) only [go_sem]
    refine numsP_a [b, c] (by simp) (by intro w hm2; simp at hm2; rcases hm2 with rfl | rfl; exact hm _ (by simp); exact hm _ (by simp)) (fun h => ?_) (fun h => ?_)
    · obtain ⟨t, ht⟩ := Option.isSome_iff_exists.1 (h b (by simp))
      obtain ⟨n, hn⟩ := Option.isSome_iff_exists.1 (h c (by simp))
      rw [show numsF [b, c] = [t, n] by simp [numsF, ht, hn]]
      simp (disch := first | omega | (simp only [go_sem]; first | done | omega)) only [go_sem]
      refine readW_a e f g (hm _ (by simp)) (hm _ (by simp)) ?_
      have hr : rdA x = (rdW [e, f, g]).map fun s => ⟨tB a, t, ⟨n, tB d, s⟩⟩ := by
        rw [hrd]
        unfold rdAw
        dsimp only
        rw [if_neg (fun h => h.elim ha hd), ht, hn]
        cases rdW [e, f, g] <;> rfl
      simp (disch := first | omega | (simp only [go_sem]; first | done | omega)) only [go_sem]
      refine w_tree (.one 0 (.one 1 (.one 2 (.one 3 (.one 4 (.one 5 (.one 6 (.one 7 (.one 8 (.one 9 (.one 10 (.one 11 (.one 12 (.one 13 (.one 14 (.one 15 (.one 16 (.one 17 .done)))))))))))))))))) (by kernel_rfl) (by decide +kernel) ?_
      simp (disch := first | omega | (simp only [go_sem]; first | done | omega)) only [go_sem]
      cases hz : rdW [e, f, g] with
      | none =>
        rw [hz] at hr
        have hk := hk ⟨tB a, t, ⟨n, tB d, ⟨0, 0, 0⟩⟩⟩ (fun y hy => by rw [hr] at hy; cases hy)
        rw [hr] at hk
        exact Ret.drop hH (Nat.le_refl _) (by simp [AV.ok, AV.ok1, AC.ok]) hk
      | some z =>
        rw [hz] at hr
        have hk := hk ⟨tB a, t, ⟨n, tB d, z⟩⟩ (fun y hy => by rw [hr] at hy; injection hy)
        rw [hr] at hk
        exact Ret.drop hH (Nat.le_refl _) (by simp [AV.ok, AV.ok1, AC.ok]) hk
    · have hno : rdA x = none := by
        rw [hrd]
        unfold rdAw
        dsimp only
        rw [if_neg (fun h => h.elim ha hd)]
        cases hb : numF b 15 with
        | none => rfl
        | some t =>
          cases hc : numF c 15 with
          | none => rfl
          | some n => exact absurd (fun w hw => by simp at hw; rcases hw with rfl | rfl; rw [hb]; rfl; rw [hc]; rfl) h
      have hk := hbad hno
      simp (disch := first | omega | (simp only [go_sem]; first | done | omega)) only [go_sem]
      exact Ret.drop hH (Nat.le_refl _) (by simp [AV.ok, AV.ok1, AC.ok]) hk
  · rw [if_neg hw, decide_eq_false hw]
    have hno : rdA x = none := by
      cases h : rdA x with
      | none => rfl
      | some y => exact absurd (rdAw_ne h) hw
    have hk := hbad hno
    simp (disch := first | omega | (simp only [go_sem]; first | done | omega)) only [go_sem]
    exact Ret.drop hH (Nat.le_refl _) (by simp [AV.ok, AV.ok1, AC.ok]) hk
theorem appAr {i q ty : Nat} {own : Bool} {J : AV → Hp → Prop} (l : List Arr) (x : Arr) (l2 : List Arr) (e : l2 = l ++ [x]) (hi : H[i]? = some (grO 67 7 (l.map encAr))) (hj : H[q]? = some (.row ty 7 [encAr x] own)) (hb : l.length ≤ 1000000000)
    (h : J (.c (grV H.length l2)) (H.set i .dead ++ [grO 67 7 (l2.map encAr)])) : aBuiltin Tryz.prog .append #[54, 54] [.c (grV i l), .c (.sl (some (q, 0)) 1)] H J := by
  subst e
  exact app_grR (enc := encAr) (e := 67) (sz := 7) (bs := 72) (z := [.str .empty, .int .i64 0, .int .i64 0, .str .empty, .int .i64 0, .int .i64 0, .int .i64 0]) l [x] (by kernel_rfl) (by kernel_rfl) (by kernel_rfl) (by kernel_rfl) hi (by rw [hj]; rfl) (by simp) rfl (by decide) (by simp; omega) (by simp; omega) h
def zAr : Arr := ⟨⟨#[]⟩, 0, ⟨0, ⟨#[]⟩, ⟨0, 0, 0⟩⟩⟩
theorem pureL_Ar (l : List Arr) : pureL (l.map encAr) = true := pureL_map _ (fun x => by simp [go_sem, AC.pure])
theorem pickAr {A : Hp} {K : AV → Hp → Prop} {G : Hp} {v : Bool} {q : Nat} (l2 : List Arr) (hA : HOk A) (h0 : G[0]? = some (.row 54 1 [[grV (A.length + q) l2]] true)) (h1 : G[1]? = some .dead) (hq : G[q]? = some (grO 67 7 (l2.map encAr))) (hq2 : 2 ≤ q)
    (hk : K (.c (.bool v)) (A ++ [.row 54 1 [[grV (A.length + 2) (l2.map encAr)]] true, .dead, grO 67 7 (l2.map encAr)])) : Ret (A.length + 2) (.c (.bool v)) (A ++ G) K := by
  intro _ _
  have hid : ∀ j, j < 2 → ([0, 1, q] : List Nat).getD j 0 = j := fun j hj => by
    match j, hj with
    | 0, _ => rfl
    | 1, _ => rfl
  refine ⟨_, _, WkL.pickR (vs' := [(.c (.bool v))]) [0, 1, q] 2 (L := [.row 54 1 [[grV (A.length + 2) (l2.map encAr)]] true, .dead, grO 67 7 (l2.map encAr)]) hA (Nat.le_refl _) (by simp) hid ?_ (by simp; omega) ?_ ?_ ?_, hk⟩
  · simp only [List.map_cons, List.map_nil, row_ren, grV_ren, map_grV]
    rw [grO_ren _ _ _ (pureL_Ar l2), pickS_add, h0, h1, hq]
    rfl
  · intro o ho
    simp only [List.mem_cons, List.not_mem_nil, or_false] at ho
    rcases ho with rfl | rfl | rfl
    · intro e he
      simp only [List.mem_cons, List.not_mem_nil, or_false] at he
      subst he
      refine ⟨rfl, fun x hx => ?_⟩
      simp only [List.mem_cons, List.not_mem_nil, or_false] at hx
      subst hx
      exact grV_ok (by simp) _
    · trivial
    · exact okN_grO (fun x => by simp [go_sem, AC.pure])
  · rfl
  · intro x hx
    rw [List.mem_singleton] at hx
    subst hx
    simp [AV.ok, AV.ok1, AC.ok]
theorem readFnA_a {A : Hp} (hA : HOk A) (l : List Arr) (x : List UInt8) (hx : x.length ≤ 1000000) (hl : l.length ≤ 1000001)
    (hk1 : goodG rdA x = true → K (.c (.bool true)) (A ++ [.row 54 1 [[grV (A.length + 2) ((l ++ [(rdA x).getD zAr]).map encAr)]] true, .dead, grO 67 7 ((l ++ [(rdA x).getD zAr]).map encAr)]))
    (hk2 : goodG rdA x = false → ∀ G, 1 ≤ G.length → K (.c (.bool false)) (A ++ G)) : ACalls Tryz.prog 99 [.c (.str (tB x)), .c (.ptr (some (A.length, 0, 0)))] (A ++ accO 54 67 7 (A.length + 1) (l.map encAr)) K := by
  unfold accO
  refine acalls Tryz.func99 rfl (by kernel_rfl) (by simp (disch := first | omega | (simp only [go_sem]; first | done | omega)) only [go_sem]) (fun hH => ?_)
  simp (disch := first | omega | (simp only [go_sem]; first | done | omega)) only [go_sem]
  refine readLine_a x hx (fun y hy => ?_)
  simp (disch := first | omega | (simp only [go_sem]; first | done | omega)) only [go_sem]
  rw [map_grV]
  obtain ⟨l2, hl2⟩ : ∃ l2, l2 = l ++ [y] := ⟨_, rfl⟩
  refine appAr l y l2 hl2 (at1 (by simp)) (at3 (by simp)) (by omega) ?_
  simp (disch := first | omega | (simp only [go_sem]; first | done | omega)) only [go_sem]
  cases hg : goodG rdA x with
  | true =>
    have hg' : (rdA x).isSome = true := hg
    obtain ⟨a, ha⟩ := Option.isSome_iff_exists.1 hg'
    have := hy a ha
    have hk := hk1 hg
    rw [ha, Option.getD_some, ← this, ← hl2] at hk
    rw [hg']
    exact pickAr (q := 4) l2 hA rfl rfl rfl (by omega) hk
  | false =>
    have hg' : (rdA x).isSome = false := hg
    rw [hg']
    exact Ret.same (by simp) (hk2 hg _ (by simp))
theorem readArr_a (l : List UInt8) (hl : l.length ≤ 1000000) (hk : K (.tup [.c (.lst 7 ((txtG rdA arF l).1.map encAr)), (.c (.int .i64 ((txtG rdA arF l).2.1))), (.c (.int .i64 ((txtG rdA arF l).2.2)))]) H) : ACalls Tryz.prog 30 [(.c (.str (tB l)))] H K := by
  have hsz := tB_size l
  unfold txtG at hk
  by_cases h1 : 200000 < l.length
  · rw [if_pos h1] at hk
    refine acalls Tryz.func30 rfl (by kernel_rfl) (by simp (disch := first | omega | (simp only [go_sem]; first | done | omega)) only [go_sem]) (fun hH => ?_)
    simp (disch := first | omega | (simp only [go_sem]; first | done | omega)) only [go_sem, hsz, h1]
    have := Ret.nilT (G := []) (sz := 7) hH (Nat.le_refl _) rfl hk
    rwa [List.append_nil] at this
  rw [if_neg h1] at hk
  have hlen := lns_len l
  refine acalls Tryz.func30 rfl (by kernel_rfl) (by simp (disch := first | omega | (simp only [go_sem]; first | done | omega)) only [go_sem]) (fun hH => ?_)
  simp (disch := first | omega | (simp only [go_sem]; first | done | omega)) only [go_sem, hsz, h1]
  refine each_a hH 99 54 67 7 l hl (goodG rdA) (fun k => (ssG rdA zAr (lnsF l) k).map encAr) rfl (fun k => pureL_Ar _) (fun k n => okN_grO (fun x => by simp [go_sem, AC.pure])) (by kernel_rfl) (fun k x hx hg K' hK' => ?_) (fun k x hx hg K' hK' => ?_) (fun hall hend => ?_) (fun hbad G hG => ?_)
  · have hxl := lns_mem l x (List.mem_of_getElem? hx)
    have hkl : (ssG rdA zAr (lnsF l) k).length ≤ k := by unfold ssG; rw [List.length_map, List.length_take]; omega
    have hkk := getElem?_lt hx
    rw [ssG_next rdA zAr hx] at hK'
    exact readFnA_a hH (ssG rdA zAr (lnsF l) k) x (by omega) (by omega) (fun _ => hK') (fun h => by rw [hg] at h; cases h)
  · have hxl := lns_mem l x (List.mem_of_getElem? hx)
    have hkl : (ssG rdA zAr (lnsF l) k).length ≤ k := by unfold ssG; rw [List.length_map, List.length_take]; omega
    have hkk := getElem?_lt hx
    exact readFnA_a hH (ssG rdA zAr (lnsF l) k) x (by omega) (by omega) (fun h => by rw [hg] at h; cases h) (fun _ => hK')
  · have hrem : remF l = [] := of_decide_eq_true hend
    rw [ssG_all rdA zAr _ hall]
    have hok : ¬ okC (goodG rdA) (lnsF l) < (lnsF l).length := by omega
    rw [if_neg hok, if_neg (by simp [hrem])] at hk
    have hfl := List.length_filterMap_le rdA (lnsF l)
    have hss : ∀ x ∈ (lnsF l).filterMap rdA, x.nd.size ≤ 1099511627776 ∧ x.p.tag.size ≤ 1099511627776 := fun x hx => by
      obtain ⟨y, hy, hy2⟩ := List.mem_filterMap.1 hx
      have := rdA_size hy2
      have := lns_mem l y hy
      omega
    generalize (lnsF l).filterMap rdA = S at *
    unfold accO
    simp (disch := first | omega | (simp only [go_sem]; first | done | omega)) only [go_sem]
    rw [map_grV]
    refine ACalls.frzGr (els := S.map encAr) (by first | ((repeat first | exact at0 (by simp) | refine atS ?_); done) | assumption) (by simp) (pureL_Ar S) rfl ?_
    refine checkArrivals_a S hss (by omega) ?_
    by_cases h2 : arF S = 0
    · rw [if_neg (by simp [h2])] at hk
      rw [h2]
      simp (disch := first | omega | (simp only [go_sem]; first | done | omega)) only [go_sem]
      exact Ret.frzFT (ty := 67) 1 hH (Nat.le_refl _) rfl (pureL_Ar S) rfl (map_grV _ _ _).symm hk
    · rw [if_pos h2] at hk
      simp (disch := first | omega | (simp only [go_sem]; first | done | omega)) only [go_sem, h2]
      exact Ret.nilT hH (Nat.le_refl _) rfl hk
  · have hle := okC_le (goodG rdA) (lnsF l)
    by_cases h3 : okC (goodG rdA) (lnsF l) < (lnsF l).length
    · rw [if_pos h3] at hk
      simp (disch := first | omega | (simp only [go_sem]; first | done | omega)) only [go_sem]
      exact Ret.nilT hH (Nat.le_refl _) rfl hk
    · rw [if_neg h3] at hk
      have h4 : okC (goodG rdA) (lnsF l) = (lnsF l).length := by omega
      have h5 : remF l ≠ [] := fun e => hbad ⟨h4, decide_eq_true e⟩
      rw [if_pos h5] at hk
      simp (disch := first | omega | (simp only [go_sem]; first | done | omega)) only [go_sem]
      rw [h4]
      exact Ret.nilT hH (Nat.le_refl _) rfl hk
end Go.Proofs.YtflklkijfkmeiaaGreatDoor
/- Lines of arrivals, read by the document. Condition: the text is no longer than a machine holds. -/
namespace Go.Proofs.YtflklkijfkmeiaaGreatDoor
open Go Go.RowKit
set_option maxRecDepth 100000
set_option linter.all false
set_option maxHeartbeats 4000000
variable {H : Hp} {K : AV → Hp → Prop}
theorem rdAw_and (a b c d e f g : List UInt8) (hn : [] ∉ [a, b, c, d, e, f, g]) : (rdAw [a, b, c, d, e, f, g]).isSome = (([b, c].all fun w => (numF w 15).isSome) && (rdW [e, f, g]).isSome) := by
  have ha : a ≠ [] := fun h => hn (by rw [h]; simp)
  have hd : d ≠ [] := fun h => hn (by rw [h]; simp)
  unfold rdAw
  dsimp only
  rw [if_neg (fun h => h.elim ha hd)]
  simp only [List.all_cons, List.all_nil, Bool.and_true]
  cases numF b 15 <;> cases numF c 15 <;> cases rdW [e, f, g] <;> rfl
theorem readQA_a {A : Hp} (hA : HOk A) (l : List Arr) (x : List UInt8) (hx : x.length ≤ 999000) (hl : l.length ≤ 1000001)
    (hk1 : goodG rdA x = true → K (.c (.bool true)) (A ++ [.row 54 1 [[grV (A.length + 2) ((l ++ [(rdA x).getD zAr]).map encAr)]] true, .dead, grO 67 7 ((l ++ [(rdA x).getD zAr]).map encAr)]))
    (hk2 : goodG rdA x = false → ∀ G, 1 ≤ G.length → K (.c (.bool false)) (A ++ G)) : ACalls Tryz.prog 102 [.c (.str (tB x)), .c (.ptr (some (A.length, 0, 0)))] (A ++ accO 54 67 7 (A.length + 1) (l.map encAr)) K := by
  have hmem := splitL_mem 32 x
  have hlen := splitL_le 32 x
  unfold accO
  refine acalls Tryz.func102 rfl (by kernel_rfl) (by simp (disch := first | omega | (simp only [go_sem]; first | done | omega)) only [go_sem]) (fun hH => ?_)
  simp (disch := first | omega | (simp only [go_sem]; first | done | omega)) only [go_sem]
  refine wordsQ_a x (by omega) ?_
  have hml : ((splitL 32 x).map encTx).length = (splitL 32 x).length := List.length_map ..
  by_cases hw : (splitL 32 x).length = 7 ∧ [] ∉ splitL 32 x
  case neg =>
    have hg : goodG rdA x = false := by
      unfold goodG
      cases h : rdA x with
      | none => rfl
      | some y => exact absurd (rdAw_ne h) hw
    by_cases he : [] ∈ splitL 32 x
    · rw [decide_eq_true he]
      simp (disch := first | omega | (simp only [go_sem]; first | done | omega)) only [go_sem]
      exact Ret.same (by simp) (hk2 hg _ (by simp))
    · have h7 : ¬ ((splitL 32 x).length : Int) = 7 := fun h => hw ⟨by omega, he⟩
      rw [decide_eq_false he]
      simp (disch := first | omega | (simp only [go_sem]; first | done | omega)) only [go_sem, hml, h7]
      exact Ret.same (by simp) (hk2 hg _ (by simp))
  obtain ⟨a, b, c, d, e, f, g, hs⟩ := seven hw.1
  have hrd : rdA x = rdAw [a, b, c, d, e, f, g] := by unfold rdA; rw [hs]
  have hwn := hw.2
  rw [hs] at hmem hlen hwn ⊢
  have hm : ∀ w ∈ [a, b, c, d, e, f, g], w.length ≤ 1000000 := fun w hw => by have := hmem w hw; omega
  have hand := rdAw_and a b c d e f g hwn
  rw [decide_eq_false hwn]
  simp (disch := first | omega | (simp only [go_sem]; first | done | omega)) only [go_sem]
  refine numsQ_a [b, c] (by simp) (by intro w hm2; simp at hm2; rcases hm2 with rfl | rfl; exact hm _ (by simp); exact hm _ (by simp)) (fun vs hv1 hv2 => ?_)
  obtain ⟨t, n, rfl⟩ : ∃ t n, vs = [t, n] := by
    match vs, hv1 with
    | [t, n], _ => exact ⟨t, n, rfl⟩
  simp (disch := first | omega | (simp only [go_sem]; first | done | omega)) only [go_sem]
  refine sampleIn_a [e, f, g] (by simp) (by intro w hm2; simp at hm2; rcases hm2 with rfl | rfl | rfl; exact hm _ (by simp); exact hm _ (by simp); exact hm _ (by simp)) (fun z hz => ?_)
  simp (disch := first | omega | (simp only [go_sem]; first | done | omega)) only [go_sem]
  refine w_tree (.one 0 (.one 1 (.one 2 (.one 3 (.one 4 (.one 5 (.one 6 (.one 7 (.one 8 (.one 9 (.one 10 (.one 11 (.one 12 (.one 13 (.one 14 (.one 15 (.one 16 (.one 17 (.one 18 .done))))))))))))))))))) (by kernel_rfl) (by decide +kernel) ?_
  simp (disch := first | omega | (simp only [go_sem]; first | done | omega)) only [go_sem]
  rw [map_grV]
  obtain ⟨y, hy⟩ : ∃ y : Arr, y = ⟨tB a, t, ⟨n, tB d, z⟩⟩ := ⟨_, rfl⟩
  obtain ⟨l2, hl2⟩ : ∃ l2, l2 = l ++ [y] := ⟨_, rfl⟩
  refine appAr l y l2 hl2 (at1 (by simp)) (q := A.length + 3) (ty := 67) (own := true) (by rw [hy]; exact at3 (by simp)) (by omega) ?_
  have hgd : goodG rdA x = (([b, c].all fun w => (numF w 15).isSome) && (rdW [e, f, g]).isSome) := by unfold goodG; rw [hrd, hand]
  cases hg : goodG rdA x with
  | true =>
    have hb := hgd
    rw [hg] at hb
    have hb := Bool.and_eq_true_iff.1 hb.symm
    have hk := hk1 hg
    have hyy : (rdA x).getD zAr = y := by
      have h1 := hb.1
      simp only [List.all_cons, List.all_nil, Bool.and_true, Bool.and_eq_true] at h1
      obtain ⟨t', ht'⟩ := Option.isSome_iff_exists.1 h1.1
      obtain ⟨n', hn'⟩ := Option.isSome_iff_exists.1 h1.2
      obtain ⟨z', hz'⟩ := Option.isSome_iff_exists.1 hb.2
      have e1 := hv2 0 b t' rfl ht'
      have e2 := hv2 1 c n' rfl hn'
      have e3 := hz z' hz'
      simp at e1 e2
      have ha0 : a ≠ [] := fun h => hwn (by rw [h]; simp)
      have hd0 : d ≠ [] := fun h => hwn (by rw [h]; simp)
      rw [hrd, hy]
      unfold rdAw
      dsimp only
      rw [if_neg (fun h => h.elim ha0 hd0), ht', hn', hz', e1, e2, e3]
      rfl
    rw [hyy, ← hl2] at hk
    have h9 := hb.1
    simp only [List.all_cons, List.all_nil, Bool.and_true] at h9
    simp (disch := first | omega | (simp only [go_sem]; first | done | omega)) only [go_sem, h9, hb.2]
    exact pickAr (q := 4) l2 hA rfl rfl rfl (by omega) hk
  | false =>
    have hb := hgd
    rw [hg] at hb
    have hk := hk2 hg
    cases h1 : ([b, c].all fun w => (numF w 15).isSome) with
    | false =>
      simp only [List.all_cons, List.all_nil, Bool.and_true] at h1
      simp (disch := first | omega | (simp only [go_sem]; first | done | omega)) only [go_sem, h1]
      exact Ret.same (by simp) (hk _ (by simp))
    | true =>
      rw [h1, Bool.true_and] at hb
      simp only [List.all_cons, List.all_nil, Bool.and_true] at h1
      simp (disch := first | omega | (simp only [go_sem]; first | done | omega)) only [go_sem, h1, ← hb]
      exact Ret.same (by simp) (hk _ (by simp))
theorem readArrQ_a (l : List UInt8) (hl : l.length ≤ 990000) (hk : K (.tup [.c (.lst 7 ((txtG rdA arF l).1.map encAr)), (.c (.int .i64 ((txtG rdA arF l).2.1))), (.c (.int .i64 ((txtG rdA arF l).2.2)))]) H) : ACalls Tryz.prog 31 [(.c (.str (tB l)))] H K := by
  have hsz := tB_size l
  unfold txtG at hk
  by_cases h1 : 200000 < l.length
  · rw [if_pos h1] at hk
    refine acalls Tryz.func31 rfl (by kernel_rfl) (by simp (disch := first | omega | (simp only [go_sem]; first | done | omega)) only [go_sem]) (fun hH => ?_)
    simp (disch := first | omega | (simp only [go_sem]; first | done | omega)) only [go_sem, hsz, h1]
    have := Ret.nilT (G := []) (sz := 7) hH (Nat.le_refl _) rfl hk
    rwa [List.append_nil] at this
  rw [if_neg h1] at hk
  have hlen := lns_len l
  refine acalls Tryz.func31 rfl (by kernel_rfl) (by simp (disch := first | omega | (simp only [go_sem]; first | done | omega)) only [go_sem]) (fun hH => ?_)
  simp (disch := first | omega | (simp only [go_sem]; first | done | omega)) only [go_sem, hsz, h1]
  refine linesQ_a hH 102 54 67 7 l hl (goodG rdA) (fun k => (ssG rdA zAr (lnsF l) k).map encAr) rfl (fun k => pureL_Ar _) (fun k n => okN_grO (fun x => by simp [go_sem, AC.pure])) (by kernel_rfl) (fun k x hx hg K' hK' => ?_) (fun k x hx hg K' hK' => ?_) (fun hall hend => ?_) (fun hbad G hG => ?_)
  · have hxl := lns_mem l x (List.mem_of_getElem? hx)
    have hkl : (ssG rdA zAr (lnsF l) k).length ≤ k := by unfold ssG; rw [List.length_map, List.length_take]; omega
    have hkk := getElem?_lt hx
    rw [ssG_next rdA zAr hx] at hK'
    exact readQA_a hH (ssG rdA zAr (lnsF l) k) x (by omega) (by omega) (fun _ => hK') (fun h => by rw [hg] at h; cases h)
  · have hxl := lns_mem l x (List.mem_of_getElem? hx)
    have hkl : (ssG rdA zAr (lnsF l) k).length ≤ k := by unfold ssG; rw [List.length_map, List.length_take]; omega
    have hkk := getElem?_lt hx
    exact readQA_a hH (ssG rdA zAr (lnsF l) k) x (by omega) (by omega) (fun h => by rw [hg] at h; cases h) (fun _ => hK')
  · have hrem : remF l = [] := of_decide_eq_true hend
    rw [ssG_all rdA zAr _ hall]
    have hok : ¬ okC (goodG rdA) (lnsF l) < (lnsF l).length := by omega
    rw [if_neg hok, if_neg (by simp [hrem])] at hk
    have hfl := List.length_filterMap_le rdA (lnsF l)
    have hss : ∀ x ∈ (lnsF l).filterMap rdA, x.nd.size ≤ 1099511627776 ∧ x.p.tag.size ≤ 1099511627776 := fun x hx => by
      obtain ⟨y, hy, hy2⟩ := List.mem_filterMap.1 hx
      have := rdA_size hy2
      have := lns_mem l y hy
      omega
    generalize (lnsF l).filterMap rdA = S at *
    unfold accO
    simp (disch := first | omega | (simp only [go_sem]; first | done | omega)) only [go_sem]
    rw [map_grV]
    refine ACalls.frzGr (els := S.map encAr) (by first | ((repeat first | exact at0 (by simp) | refine atS ?_); done) | assumption) (by simp) (pureL_Ar S) rfl ?_
    refine arrivalsFault_a S hss (by omega) ?_
    by_cases h2 : arF S = 0
    · rw [if_neg (by simp [h2])] at hk
      rw [h2]
      simp (disch := first | omega | (simp only [go_sem]; first | done | omega)) only [go_sem]
      exact Ret.frzFT (ty := 67) 1 hH (Nat.le_refl _) rfl (pureL_Ar S) rfl (map_grV _ _ _).symm hk
    · rw [if_pos h2] at hk
      simp (disch := first | omega | (simp only [go_sem]; first | done | omega)) only [go_sem, h2]
      exact Ret.nilT hH (Nat.le_refl _) rfl hk
  · have hle := okC_le (goodG rdA) (lnsF l)
    by_cases h3 : okC (goodG rdA) (lnsF l) < (lnsF l).length
    · rw [if_pos h3] at hk
      simp (disch := first | omega | (simp only [go_sem]; first | done | omega)) only [go_sem]
      exact Ret.nilT hH (Nat.le_refl _) rfl hk
    · rw [if_neg h3] at hk
      have h4 : okC (goodG rdA) (lnsF l) = (lnsF l).length := by omega
      have h5 : remF l ≠ [] := fun e => hbad ⟨h4, decide_eq_true e⟩
      rw [if_pos h5] at hk
      simp (disch := first | omega | (simp only [go_sem]; first | done | omega)) only [go_sem]
      rw [h4]
      exact Ret.nilT hH (Nat.le_refl _) rfl hk
end Go.Proofs.YtflklkijfkmeiaaGreatDoor
