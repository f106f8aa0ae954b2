/- The document's answer: numbers as rows; the numbers that were dropped. Condition: there are not too many, and they are small. -/
import Derived.Test.YtnpdbnkgipkgaaaGreatHVKeptG
namespace Go.Proofs.YtnpdbnkgipkgaaaGreat
open Go Go.RowKit
set_option maxRecDepth 100000
set_option linter.all false
set_option maxHeartbeats 1000000
variable {H : Hp} {K : AV → Hp → Prop}
theorem cloneGI_a (l : List Int) {i : Nat} (hi : H[i]? = some (grO 3 1 (l.map encI))) (hl : l.length ≤ 1000000) (hk : K (.c (grV H.length l)) (H ++ [grO 3 1 (l.map encI)])) : ACalls Tryz.prog 117 [.c (grV i l)] H K := by
  have hlt := getElem?_lt hi
  cases l with
  | nil =>
    show ACalls _ _ [.c (.sl none 0)] H K
    refine acalls Tryz.func117 rfl (by kernel_rfl) (by simp (disch := first | omega | (simp only [go_sem]; first | done | omega)) only [go_sem]) (fun hH => ?_)
    simp (disch := first | omega | (simp only [go_sem]; first | done | omega)) only [go_sem]
    exact Ret.pad (Nat.le_refl _) (Ret.same (by simp) hk)
  | cons x xs =>
    simp only [List.length_cons] at hl
    rw [grO_pos _ _ (by simp)] at hi
    rw [grV_pos _ (by simp)]
    refine acalls Tryz.func117 rfl (by kernel_rfl) (by simp (disch := first | omega | (simp only [go_sem]; first | done | omega)) only [go_sem]) (fun hH => ?_)
    simp (disch := first | omega | (simp only [go_sem]; first | done | omega)) only [go_sem]
    refine app_sl ?_
    simp only [List.map_cons, encI] at hi
    simp (disch := first | omega | (simp only [go_sem]; first | done | omega)) only [go_sem, hi]
    refine Ret.pick [1] hH (Nat.le_refl _) (L := [.row 3 1 ((x :: xs).map encI) true]) rfl (by simp) (by simp [AObj.pureO, pureL, encI, AC.pure]) (v' := .c (.sl (some (H.length, 0)) (xs.length + 1))) ?_ (by simp [AV.ok, AV.ok1, AC.ok]) (by simpa [grV, grO] using hk)
    simp [AV.ren, AV.ren1, AC.ren, pickS]
theorem rowsOf_a (l : List Int) {i : Nat} (hi : H[i]? = some (grO 3 1 (l.map encI))) (hlen : l.length ≤ 100000) (hb : ∀ x ∈ l, -1000000 ≤ x ∧ x ≤ 1000000)
    (hk : K (.c (.lst 2 ((rowsF (srtI l)).map encRw))) H) : ACalls Tryz.prog 68 [.c (grV i l)] H K := by
  have hb2 : ∀ x ∈ srtI l, -1000000 ≤ x ∧ x ≤ 1000000 := fun x hx => hb x (srtI_mem.1 hx)
  have hSl := srtI_len l
  refine acalls Tryz.func68 rfl (by kernel_rfl) (by simp (disch := first | omega | (simp only [go_sem]; first | done | omega)) only [go_sem]) (fun hH => ?_)
  simp (disch := first | omega | (simp only [go_sem]; first | done | omega)) only [go_sem]
  refine ACalls.hok (cloneGI_a l hi (by omega) (fun hHG => ?_))
  simp (disch := first | omega | (simp only [go_sem]; first | done | omega)) only [go_sem]
  refine ACalls.hok (sortV_a l (at0 rfl) (by omega) (fun hHS => ?_))
  rw [List.set_append_right _ _ (Nat.le_refl _), Nat.sub_self, List.set_cons_zero] at hHS ⊢
  have hvl : grV H.length l = grV H.length (srtI l) := by
    cases l with
    | nil => rw [List.length_eq_zero_iff.1 hSl]
    | cons x t =>
      rw [grV_pos _ (by simp), grV_pos _ (by intro h; rw [h] at hSl; simp at hSl), hSl]
  rw [hvl]
  obtain ⟨S, hS⟩ : ∃ S, S = srtI l := ⟨_, rfl⟩
  rw [← hS] at hb2 hSl hk hHS ⊢
  have hiS : (H ++ [grO 3 1 (S.map encI)])[H.length]? = some (grO 3 1 (S.map encI)) := at0 rfl
  generalize hG : H ++ [grO 3 1 (S.map encI)] = G at *
  have hGl : G.length = H.length + 1 := by rw [← hG]; simp
  have hig : H.length < G.length := by omega
  have hGe : H.length ≤ G.length := by omega
  simp (disch := first | omega | (simp only [go_sem]; first | done | omega)) only [go_sem, hiS]
  refine AWp.loop (G.length) [11, 12] [13, 3] (fun (k : Nat) => k ≤ S.length) (fun (k : Nat) => [(13, (.c (.int .i64 k))), (3, .c (grV G.length (rowsF (S.take k))))]) (fun (k : Nat) => G ++ [grO 59 2 ((rowsF (S.take k)).map encRw)]) (fun (k : Nat) => S.length - k) (by kernel_rfl) (fun _ => rfl) (by kernel_rfl) (by first | (simp; done) | omega) (by first | (simp; done) | (simp; omega) | omega) (by (try simp only [List.forall_mem_cons, List.not_mem_nil, false_implies, implies_true, and_true]); (try simp (disch := first | omega | (simp only [go_sem]; first | done | omega)) only [go_sem]); all_goals first | trivial | (simp [AV.ok, AV.ok1, AC.ok]; done) | (simp [AV.ok, AV.ok1, AC.ok]; omega) | (simp [AV.ok, AV.ok1, AC.ok]; assumption) | ((repeat' apply And.intro) <;> first | trivial | (simp [AV.ok, AV.ok1, AC.ok]; done) | (simp [AV.ok, AV.ok1, AC.ok]; omega) | (simp [AV.ok, AV.ok1, AC.ok]; assumption) | (refine grV_ok ?_ _; first | (simp; done) | (simp; omega) | omega))) ?_ (fun k hk1 _ _ => ?_)
  · refine Next.mk 0 (Nat.zero_le _) ?_
    exact WkL.pad (by omega)
  by_cases hlt : k < S.length
  · have hnx := rowsF_next hlt
    have hln := rowsF_len S k hk1
    have hbk := hb2 S[k] (List.getElem_mem hlt)
    obtain ⟨n, hn⟩ : ∃ n, n = S[k] := ⟨_, rfl⟩
    rw [← hn] at hnx hbk
    obtain ⟨rs, hrs⟩ : ∃ rs, rs = rowsF (S.take k) := ⟨_, rfl⟩
    rw [← hrs] at hnx hln ⊢
    clear hrs
    by_cases hap : rowAdd rs n = rs ++ [(n, n + 1)]
    · obtain ⟨r2, hr2⟩ : ∃ r2, r2 = rs ++ [(n, n + 1)] := ⟨_, rfl⟩
      rw [hap, ← hr2] at hnx
      have hnl : ∀ h : rs.length - 1 < rs.length, rs[rs.length - 1].2 ≠ n := by
        intro h hh
        rcases List.eq_nil_or_concat rs with rfl | ⟨q, a, rfl⟩
        · simp at h
        · rw [List.concat_eq_append] at *
          have ha : a.2 = n := by simpa using hh
          unfold rowAdd at hap
          rw [if_pos (by simp [ha])] at hap
          have := congrArg List.length hap
          simp at this
      by_cases hr0 : rs = []
      · subst hr0
        simp (disch := first | omega | (simp only [go_sem]; first | done | omega)) only [go_sem, hlt, hiS, ← hn]
        refine appRw [] (n, n + 1) r2 hr2 (by first | exact at0 (by simp) | exact at1 (by simp) | exact at2 (by simp) | exact at3 (by simp) | exact at4 (by simp) | exact at5 (by simp) | exact atG 6 (by simp) rfl | exact atG 7 (by simp) rfl | exact atG 8 (by simp) rfl | exact atG 9 (by simp) rfl | exact atG 10 (by simp) rfl | exact atG 11 (by simp) rfl | exact atG 12 (by simp) rfl | exact atG 13 (by simp) rfl | exact atG 14 (by simp) rfl | exact atG 15 (by simp) rfl | assumption) (by first | exact at0 (by simp) | exact at1 (by simp) | exact at2 (by simp) | exact at3 (by simp) | exact at4 (by simp) | exact at5 (by simp) | exact atG 6 (by simp) rfl | exact atG 7 (by simp) rfl | exact atG 8 (by simp) rfl | exact atG 9 (by simp) rfl | exact atG 10 (by simp) rfl | exact atG 11 (by simp) rfl | exact atG 12 (by simp) rfl | exact atG 13 (by simp) rfl | exact atG 14 (by simp) rfl | exact atG 15 (by simp) rfl | assumption) (by simp) ?_
        simp (disch := first | omega | (simp only [go_sem]; first | done | omega)) only [go_sem]
        refine Next.mk (k + 1) ⟨by omega, by omega⟩ ?_
        rw [hnx]
        ((try simp (disch := first | omega | (simp only [go_sem]; first | done | omega)) only [go_sem]); (first | refine WkL.pick [0] ?_ ?_ rfl ?_ ?_ ?_ ?_ | refine WkL.pick [1] ?_ ?_ rfl ?_ ?_ ?_ ?_ | refine WkL.pick [2] ?_ ?_ rfl ?_ ?_ ?_ ?_ | refine WkL.pick [3] ?_ ?_ rfl ?_ ?_ ?_ ?_ | refine WkL.pick [4] ?_ ?_ rfl ?_ ?_ ?_ ?_ | refine WkL.pick [5] ?_ ?_ rfl ?_ ?_ ?_ ?_ | refine WkL.pick [6] ?_ ?_ rfl ?_ ?_ ?_ ?_ | refine WkL.pick [7] ?_ ?_ rfl ?_ ?_ ?_ ?_ | refine WkL.pick [8] ?_ ?_ rfl ?_ ?_ ?_ ?_ | refine WkL.pick [9] ?_ ?_ rfl ?_ ?_ ?_ ?_ | refine WkL.pick [10] ?_ ?_ rfl ?_ ?_ ?_ ?_ | refine WkL.pick [11] ?_ ?_ rfl ?_ ?_ ?_ ?_ | refine WkL.pick [12] ?_ ?_ rfl ?_ ?_ ?_ ?_ | refine WkL.pick [13] ?_ ?_ rfl ?_ ?_ ?_ ?_ | refine WkL.pick [14] ?_ ?_ rfl ?_ ?_ ?_ ?_ | refine WkL.pick [15] ?_ ?_ rfl ?_ ?_ ?_ ?_) <;> first | assumption | exact HOk.str (by assumption) | (simp; done) | (simp; omega) | (simp [pureO_gr, AObj.pureO, pureL, go_sem, AC.pure]; done) | (simp only [List.all_cons, List.all_nil, Bool.and_true]; exact pureO_gr (pureL_map _ (fun x => by simp [go_sem, AC.pure]))) | ((try simp only [List.map_cons, List.map_nil, av_ren_gr]); simp [AV.ren, AV.ren1, AC.ren, pickS]; first | done | omega) | (simp only [List.forall_mem_cons, List.not_mem_nil, false_implies, implies_true, and_true]; (repeat' apply And.intro) <;> first | trivial | exact grV_ok (by simp) _ | exact okN_grO (fun x => by simp [go_sem, AC.pure]) | exact okN_map (fun x => by simp [go_sem, AC.pure]) | (simp [AV.ok, AV.ok1, AC.ok]; done) | (simp [AV.ok, AV.ok1, AC.ok]; omega) | (simp [AObj.okN, AC.ok]; done)) | (simp [AObj.okN]; done))
      · have hr1 : 0 < rs.length := List.length_pos_iff.2 hr0
        have e3 : ((rs.length : Int) - 1).toNat = rs.length - 1 := by omega
        have e4 : ∀ h : ((rs.length : Int) - 1).toNat < rs.length, rs[((rs.length : Int) - 1).toNat]'h = rs[rs.length - 1] := fun h => by congr 1
        have e5 := hnl (by omega)
        rw [grV_pos _ hr0, grO_pos _ _ (by simpa using hr0)]
        simp (disch := first | omega | (simp only [go_sem]; first | done | omega)) only [go_sem, hlt, hiS, ← hn, e4, e5]
        rw [show AC.sl (some (G.length, 0)) rs.length = grV G.length rs from (grV_pos _ hr0).symm, show AObj.row 59 2 (rs.map encRw) true = grO 59 2 (rs.map encRw) from (grO_pos _ _ (by simpa using hr0)).symm]
        refine appRw rs (n, n + 1) r2 hr2 (by first | exact at0 (by simp) | exact at1 (by simp) | exact at2 (by simp) | exact at3 (by simp) | exact at4 (by simp) | exact at5 (by simp) | exact atG 6 (by simp) rfl | exact atG 7 (by simp) rfl | exact atG 8 (by simp) rfl | exact atG 9 (by simp) rfl | exact atG 10 (by simp) rfl | exact atG 11 (by simp) rfl | exact atG 12 (by simp) rfl | exact atG 13 (by simp) rfl | exact atG 14 (by simp) rfl | exact atG 15 (by simp) rfl | assumption) (by first | exact at0 (by simp) | exact at1 (by simp) | exact at2 (by simp) | exact at3 (by simp) | exact at4 (by simp) | exact at5 (by simp) | exact atG 6 (by simp) rfl | exact atG 7 (by simp) rfl | exact atG 8 (by simp) rfl | exact atG 9 (by simp) rfl | exact atG 10 (by simp) rfl | exact atG 11 (by simp) rfl | exact atG 12 (by simp) rfl | exact atG 13 (by simp) rfl | exact atG 14 (by simp) rfl | exact atG 15 (by simp) rfl | assumption) (by omega) ?_
        simp (disch := first | omega | (simp only [go_sem]; first | done | omega)) only [go_sem]
        refine Next.mk (k + 1) ⟨by omega, by omega⟩ ?_
        rw [hnx]
        ((try simp (disch := first | omega | (simp only [go_sem]; first | done | omega)) only [go_sem]); (first | refine WkL.pick [0] ?_ ?_ rfl ?_ ?_ ?_ ?_ | refine WkL.pick [1] ?_ ?_ rfl ?_ ?_ ?_ ?_ | refine WkL.pick [2] ?_ ?_ rfl ?_ ?_ ?_ ?_ | refine WkL.pick [3] ?_ ?_ rfl ?_ ?_ ?_ ?_ | refine WkL.pick [4] ?_ ?_ rfl ?_ ?_ ?_ ?_ | refine WkL.pick [5] ?_ ?_ rfl ?_ ?_ ?_ ?_ | refine WkL.pick [6] ?_ ?_ rfl ?_ ?_ ?_ ?_ | refine WkL.pick [7] ?_ ?_ rfl ?_ ?_ ?_ ?_ | refine WkL.pick [8] ?_ ?_ rfl ?_ ?_ ?_ ?_ | refine WkL.pick [9] ?_ ?_ rfl ?_ ?_ ?_ ?_ | refine WkL.pick [10] ?_ ?_ rfl ?_ ?_ ?_ ?_ | refine WkL.pick [11] ?_ ?_ rfl ?_ ?_ ?_ ?_ | refine WkL.pick [12] ?_ ?_ rfl ?_ ?_ ?_ ?_ | refine WkL.pick [13] ?_ ?_ rfl ?_ ?_ ?_ ?_ | refine WkL.pick [14] ?_ ?_ rfl ?_ ?_ ?_ ?_ | refine WkL.pick [15] ?_ ?_ rfl ?_ ?_ ?_ ?_) <;> first | assumption | exact HOk.str (by assumption) | (simp; done) | (simp; omega) | (simp [pureO_gr, AObj.pureO, pureL, go_sem, AC.pure]; done) | (simp only [List.all_cons, List.all_nil, Bool.and_true]; exact pureO_gr (pureL_map _ (fun x => by simp [go_sem, AC.pure]))) | ((try simp only [List.map_cons, List.map_nil, av_ren_gr]); simp [AV.ren, AV.ren1, AC.ren, pickS]; first | done | omega) | (simp only [List.forall_mem_cons, List.not_mem_nil, false_implies, implies_true, and_true]; (repeat' apply And.intro) <;> first | trivial | exact grV_ok (by simp) _ | exact okN_grO (fun x => by simp [go_sem, AC.pure]) | exact okN_map (fun x => by simp [go_sem, AC.pure]) | (simp [AV.ok, AV.ok1, AC.ok]; done) | (simp [AV.ok, AV.ok1, AC.ok]; omega) | (simp [AObj.okN, AC.ok]; done)) | (simp [AObj.okN]; done))
    · obtain ⟨q, a, rfl, ha⟩ : ∃ q a, rs = q ++ [a] ∧ a.2 = n := by
        unfold rowAdd at hap
        split at hap
        · rename_i hc
          rcases List.eq_nil_or_concat rs with rfl | ⟨q, a, rfl⟩
          · simp at hc
          · rw [List.concat_eq_append] at *
            exact ⟨q, a, rfl, by simpa using hc⟩
        · exact absurd rfl hap
      have e : rowAdd (q ++ [a]) n = q ++ [(a.1, n + 1)] := by unfold rowAdd; rw [if_pos (by simp [ha])]; simp
      have hln2 : q.length + 1 ≤ k := by simpa using hln
      have e4 : ∀ h : (((q.length + 1 : Nat) : Int) - 1).toNat < (q ++ [a]).length, (q ++ [a])[(((q.length + 1 : Nat) : Int) - 1).toNat]'h = a := fun h => by
        have : (((q.length + 1 : Nat) : Int) - 1).toNat = q.length := by omega
        simp [this]
      have e2 : ((q ++ [a]).map encRw).set q.length [.int .i64 a.1, .int .i64 (n + 1)] = (q ++ [(a.1, n + 1)]).map encRw := by
        rw [List.map_append, List.set_append_right _ _ (by simp), List.length_map, Nat.sub_self, List.map_append]; rfl
      simp (disch := first | omega | (simp only [go_sem]; first | done | omega)) only [go_sem, hlt, hiS, ← hn, e4, ha]
      refine Next.mk (k + 1) ⟨by omega, by omega⟩ ?_
      rw [hnx, e, show (((q.length + 1 : Nat) : Int) - 1).toNat = q.length by omega, e2, grO_pos _ _ (show (q ++ [(a.1, n + 1)]).map encRw ≠ [] by simp)]
      (try simp (disch := first | omega | (simp only [go_sem]; first | done | omega)) only [go_sem]); (first | refine WkL.eq ?_ ?_ | refine WkL.rest (by assumption) ?_ ?_ ?_ | refine WkL.keepL (by assumption) rfl ?_ ?_ ?_ ?_) <;> first | rfl | (simp; done) | (simp; omega) | (simp only [List.cons.injEq, AV.c.injEq, AC.int.injEq, AC.bool.injEq, AC.str.injEq, and_true, true_and, Int.natCast_add, Int.natCast_one, Int.cast_ofNat_Int]; omega) | (simp [AV.ok, AV.ok1, AC.ok]; done) | (simp [AV.ok, AV.ok1, AC.ok]; omega) | (simp only [List.forall_mem_cons, List.not_mem_nil, false_implies, implies_true, and_true]; (repeat' apply And.intro) <;> first | exact okN_map (fun x => by simp [go_sem, AC.pure]) | exact okN_grO (fun x => by simp [go_sem, AC.pure]) | (simp [AObj.okN, AC.ok]; done) | (simp [AObj.okN, AC.ok]; omega)) | (simp [*]; done) | grind
  · simp (disch := first | omega | (simp only [go_sem]; first | done | omega)) only [go_sem, hlt]
    rw [← hG, List.append_assoc]
    exact Ret.frzGr 1 hH (by omega) rfl (pureL_map _ (fun x => by simp [go_sem, AC.pure])) (by rw [map_grV]; simp) hk
theorem droppedOf_a (c p : Int) (l : List Stp) (hE : bfE c p l = 0) (hk : K (.c (.lst 2 ((rowsF (srtI (playF c p l).drp)).map encRw))) H) : ACalls Tryz.prog 22 [(.c (.int .i64 c)), (.c (.int .i64 p)), .c (.lst 7 (l.map encStp))] H K := by
  have h := run_ok hE
  have e3 := h.len
  have hbd := play_bd c p l l.length (Nat.le_refl _) e3
  rw [List.take_length] at hbd
  obtain ⟨b1, b2, b3, b4, b5, b6⟩ := hbd
  obtain ⟨_, e2⟩ := bfE_ok hE
  refine acalls Tryz.func22 rfl (by kernel_rfl) (by simp (disch := first | omega | (simp only [go_sem]; first | done | omega)) only [go_sem]) (fun hH => ?_)
  simp (disch := first | omega | (simp only [go_sem]; first | done | omega)) only [go_sem]
  refine nrunK_a h (fun L s hN _ => ?_)
  have hc := hN.hc
  have hcl := getElem?_lt hc
  have hd := hN.hd
  unfold nodeRO at hc
  simp (disch := first | omega | (simp only [go_sem]; first | done | omega)) only [go_sem, hc, hcl]
  refine rowsOf_a _ hd (by omega) ?_ ?_
  · intro x hx
    have hok := play_ok e2.1 ⟨e2.2.2.1, e2.2.2.2⟩ l
    have := hok.drng x hx
    omega
  · simp (disch := first | omega | (simp only [go_sem]; first | done | omega)) only [go_sem]
    exact Ret.drop hH (Nat.le_refl _) (by simp [AV.ok, AV.ok1, AC.ok]) hk
end Go.Proofs.YtnpdbnkgipkgaaaGreat
