/- Package buffer's functions. Condition: the list is not huge. -/
import Derived.Test.YtnpdbnkgipkgaaaGreatHVNodeF
import Derived.Test.YtnpdbnkgipkgaaaGreatHVStp
import Derived.Test.YtnpdbnkgipkgaaaGreatHVRows
namespace Go.Proofs.YtnpdbnkgipkgaaaGreat
open Go Go.RowKit
set_option maxRecDepth 100000
set_option linter.all false
set_option maxHeartbeats 2000000
variable {H : Hp} {K : AV → Hp → Prop}
theorem bfE_ok {c p : Int} {l : List Stp} (h : bfE c p l = 0) : stpF l = 0 ∧ 2 ≤ c ∧ c ≤ 1000 ∧ 1 ≤ p ∧ p ≤ 3 := by
  unfold bfE at h
  split at h
  · cases h
  · split at h
    · cases h
    · exact ⟨h, by omega⟩
theorem cnt_ok {l : List Stp} (h : stpF l = 0) : l.length ≤ 2000 ∧ ∀ x ∈ l, x.kind = 2 → x.count ≤ 1000000 := by
  obtain ⟨h1, h2⟩ := stpF_all h
  refine ⟨h1, fun x hx hk => ?_⟩
  have := stp_count (h2 x hx) hk
  omega
theorem ACalls.hok {P : Program} {f : FuncId} {args : List AV} {H : Hp} {K : AV → Hp → Prop} (h : ACalls P f args H (fun v G => HOk G → K v G)) : ACalls P f args H K :=
  fun B w0 ι w vs hs hr ho => (h B w0 ι w vs hs hr ho).mono fun _ _ ⟨ι', v, av, H', h1, h2, h3, h4, h5, h6, h7⟩ => ⟨ι', v, av, H', h1, h2, h3, h4, h5, h6, h7 h4.scope⟩
theorem new_at {H L : Hp} {i : Nat} {o : AObj} (h : (H ++ L)[i]? = some o) (hne : ∀ (q : Nat) (ob : AObj), H[q]? = some ob → q ≠ i) : ∃ j, i = H.length + j ∧ L[j]? = some o := by
  rcases Nat.lt_or_ge i H.length with hi | hi
  · exact absurd rfl (hne i _ (List.getElem?_eq_getElem hi))
  · rw [List.getElem?_append_right hi] at h
    exact ⟨i - H.length, by omega, h⟩
theorem play_rw (c p : Int) (l : List Stp) : ∀ k, k ≤ l.length → (playF c p (l.take k)).ref.length = (playF c p (l.take k)).why.length := by
  intro k
  induction k with
  | zero => intro _; rfl
  | succ k ih =>
    intro hk
    have ih := ih (by omega)
    rw [play_next c p (by omega)]
    unfold stepF
    split
    · unfold putF
      split
      · split <;> exact ih
      · exact ih
    split
    · exact ih
    split
    · unfold ackF
      split
      · simp only [List.length_append, List.length_singleton, ih]
      · exact ih
    split
    · exact ih
    · exact ih
theorem sent_a (c p : Int) (l : List Stp) (hlen : l.length ≤ 1099511627776) (ht : ∀ x ∈ l, x.tag.size ≤ 1099511627776)
    (hk : K (.tup [.c (.lst 5 ((if bfE c p l = 0 then (playF c p l).out else []).map encPk)), (.c (.int .i64 (bfE c p l)))]) H) : ACalls Tryz.prog 14 [(.c (.int .i64 c)), (.c (.int .i64 p)), .c (.lst 7 (l.map encStp))] H K := by
  by_cases hE : bfE c p l = 0
  · obtain ⟨e1, e2⟩ := bfE_ok hE
    obtain ⟨e3, e4⟩ := cnt_ok e1
    rw [if_pos hE, hE] at hk
    refine acalls Tryz.func14 rfl (by kernel_rfl) (by simp (disch := first | omega | (simp only [go_sem]; first | done | omega)) only [go_sem]) (fun hH => ?_)
    simp (disch := first | omega | (simp only [go_sem]; first | done | omega)) only [go_sem]
    refine bfFault_a c p l hlen ht ?_
    rw [hE]
    simp (disch := first | omega | (simp only [go_sem]; first | done | omega)) only [go_sem]
    refine nplay_a c p l e3 e4 (fun L s hN => ?_)
    have hc := hN.hc
    have hcl := getElem?_lt hc
    obtain ⟨j, hj1, hj2⟩ := new_at hN.ho (fun q ob hq he => (hN.pre q ob hq).2 (by subst he; simp))
    unfold nodeO at hc
    simp (disch := first | omega | (simp only [go_sem]; first | done | omega)) only [go_sem, hc, hcl]
    exact Ret.frzGrT j hH (Nat.le_refl _) hj2 (pureL_map _ (fun x => by simp [go_sem, AC.pure])) rfl (by rw [map_grV, ← hj1]) hk
  · rw [if_neg hE] at hk
    refine acalls Tryz.func14 rfl (by kernel_rfl) (by simp (disch := first | omega | (simp only [go_sem]; first | done | omega)) only [go_sem]) (fun hH => ?_)
    simp (disch := first | omega | (simp only [go_sem]; first | done | omega)) only [go_sem]
    refine bfFault_a c p l hlen ht ?_
    simp (disch := first | omega | (simp only [go_sem]; first | done | omega)) only [go_sem, hE]
    exact Ret.nilS (Nat.le_refl _) rfl hk
theorem buffered_a (c p : Int) (l : List Stp) (hlen : l.length ≤ 1099511627776) (ht : ∀ x ∈ l, x.tag.size ≤ 1099511627776)
    (hk : K (.tup [.c (.lst 5 ((if bfE c p l = 0 then (playF c p l).l.map (fun x => x.p) else []).map encPk)), (.c (.int .i64 (bfE c p l)))]) H) : ACalls Tryz.prog 13 [(.c (.int .i64 c)), (.c (.int .i64 p)), .c (.lst 7 (l.map encStp))] H K := by
  by_cases hE : bfE c p l = 0
  · obtain ⟨e1, e2⟩ := bfE_ok hE
    obtain ⟨e3, e4⟩ := cnt_ok e1
    have hbd := play_bd c p l l.length (Nat.le_refl _) e3
    rw [List.take_length] at hbd
    rw [if_pos hE, hE] at hk
    refine acalls Tryz.func13 rfl (by kernel_rfl) (by simp (disch := first | omega | (simp only [go_sem]; first | done | omega)) only [go_sem]) (fun hH => ?_)
    simp (disch := first | omega | (simp only [go_sem]; first | done | omega)) only [go_sem]
    refine bfFault_a c p l hlen ht ?_
    rw [hE]
    simp (disch := first | omega | (simp only [go_sem]; first | done | omega)) only [go_sem]
    refine ACalls.hok (nplay_a c p l e3 e4 (fun L s hN hHG => ?_))
    obtain ⟨b1, b2, b3, b4, b5, b6⟩ := hbd
    generalize playF c p l = nd at *
    have hc := hN.hc
    have hcl := getElem?_lt hc
    have hl := hN.hl
    have hll := getElem?_lt hl
    unfold nodeO at hc
    simp (disch := first | omega | (simp only [go_sem]; first | done | omega)) only [go_sem, hc, hcl]
    generalize hG : H ++ L = G at *
    have hGe : H.length ≤ G.length := by rw [← hG]; simp
    have hsl : ∀ m, s.l < m → AC.ok m (hdV s.b s.l nd.l) := by
      intro m hm
      unfold hdV
      split
      · exact hm
      · exact grV_ok hm _
    have hsl2 := hsl G.length hll
    refine AWp.loop (G.length) [25, 26] [27, 9] (fun (k : Nat) => k ≤ nd.l.length) (fun (k : Nat) => [(27, (.c (.int .i64 k))), (9, .c (grV G.length ((nd.l.take k).map (fun x => x.p))))]) (fun (k : Nat) => G ++ [grO 56 5 (((nd.l.take k).map (fun x => x.p)).map encPk)]) (fun (k : Nat) => nd.l.length - k) (by kernel_rfl) (fun _ => rfl) (by kernel_rfl) (by first | (simp; done) | omega) (by first | (simp; done) | (simp; omega) | omega) (by (try simp only [List.forall_mem_cons, List.not_mem_nil, false_implies, implies_true, and_true]); (try simp (disch := first | omega | (simp only [go_sem]; first | done | omega)) only [go_sem]); all_goals first | trivial | (simp [AV.ok, AV.ok1, AC.ok]; done) | (simp [AV.ok, AV.ok1, AC.ok]; omega) | (simp [AV.ok, AV.ok1, AC.ok]; assumption) | ((repeat' apply And.intro) <;> first | trivial | (simp [AV.ok, AV.ok1, AC.ok]; done) | (simp [AV.ok, AV.ok1, AC.ok]; omega) | (simp [AV.ok, AV.ok1, AC.ok]; assumption) | (refine grV_ok ?_ _; first | (simp; done) | (simp; omega) | omega))) ?_ (fun k hk1 _ _ => ?_)
    · refine Next.mk 0 (Nat.zero_le _) ?_
      exact WkL.pad (Nat.le_refl _)
    by_cases hlt : k < nd.l.length
    · have hne : nd.l ≠ [] := by intro h; rw [h] at hlt; simp at hlt
      have hlr := hl
      rw [hdO_pos _ hne] at hlr
      obtain ⟨x, hx⟩ : ∃ x, x = nd.l[k] := ⟨_, rfl⟩
      obtain ⟨o, ho⟩ : ∃ o, o = (nd.l.take k).map (fun x => x.p) := ⟨_, rfl⟩
      have hol : o.length ≤ k := by rw [ho, List.length_map, List.length_take]; omega
      obtain ⟨o2, ho2⟩ : ∃ o2, o2 = o ++ [x.p] := ⟨_, rfl⟩
      have hnx : (nd.l.take (k + 1)).map (fun x => x.p) = o2 := by rw [ho2, List.take_succ_eq_append_getElem hlt, List.map_append, ← ho, hx]; rfl
      rw [← ho, hdV_pos _ _ hne]
      simp (disch := first | omega | (simp only [go_sem]; first | done | omega)) only [go_sem, hlt, hlr, hll, ← hx]
      refine appPk o x.p o2 ho2 (by first | exact at0 (by simp) | exact at1 (by simp) | exact at2 (by simp) | exact at3 (by simp) | exact at4 (by simp) | exact at5 (by simp) | exact atG 6 (by simp) rfl | exact atG 7 (by simp) rfl | exact atG 8 (by simp) rfl | exact atG 9 (by simp) rfl | exact atG 10 (by simp) rfl | exact atG 11 (by simp) rfl | exact atG 12 (by simp) rfl | exact atG 13 (by simp) rfl | exact atG 14 (by simp) rfl | exact atG 15 (by simp) rfl | assumption) (by first | exact at0 (by simp) | exact at1 (by simp) | exact at2 (by simp) | exact at3 (by simp) | exact at4 (by simp) | exact at5 (by simp) | exact atG 6 (by simp) rfl | exact atG 7 (by simp) rfl | exact atG 8 (by simp) rfl | exact atG 9 (by simp) rfl | exact atG 10 (by simp) rfl | exact atG 11 (by simp) rfl | exact atG 12 (by simp) rfl | exact atG 13 (by simp) rfl | exact atG 14 (by simp) rfl | exact atG 15 (by simp) rfl | assumption) (by omega) ?_
      simp (disch := first | omega | (simp only [go_sem]; first | done | omega)) only [go_sem]
      refine Next.mk (k + 1) ⟨hlt, by omega⟩ ?_
      rw [hnx]
      ((try simp (disch := first | omega | (simp only [go_sem]; first | done | omega)) only [go_sem]); (first | refine WkL.pick [0] ?_ ?_ rfl ?_ ?_ ?_ ?_ | refine WkL.pick [1] ?_ ?_ rfl ?_ ?_ ?_ ?_ | refine WkL.pick [2] ?_ ?_ rfl ?_ ?_ ?_ ?_ | refine WkL.pick [3] ?_ ?_ rfl ?_ ?_ ?_ ?_ | refine WkL.pick [4] ?_ ?_ rfl ?_ ?_ ?_ ?_ | refine WkL.pick [5] ?_ ?_ rfl ?_ ?_ ?_ ?_ | refine WkL.pick [6] ?_ ?_ rfl ?_ ?_ ?_ ?_ | refine WkL.pick [7] ?_ ?_ rfl ?_ ?_ ?_ ?_ | refine WkL.pick [8] ?_ ?_ rfl ?_ ?_ ?_ ?_ | refine WkL.pick [9] ?_ ?_ rfl ?_ ?_ ?_ ?_ | refine WkL.pick [10] ?_ ?_ rfl ?_ ?_ ?_ ?_ | refine WkL.pick [11] ?_ ?_ rfl ?_ ?_ ?_ ?_ | refine WkL.pick [12] ?_ ?_ rfl ?_ ?_ ?_ ?_ | refine WkL.pick [13] ?_ ?_ rfl ?_ ?_ ?_ ?_ | refine WkL.pick [14] ?_ ?_ rfl ?_ ?_ ?_ ?_ | refine WkL.pick [15] ?_ ?_ rfl ?_ ?_ ?_ ?_) <;> first | assumption | exact HOk.str (by assumption) | (simp; done) | (simp; omega) | (simp [pureO_gr, AObj.pureO, pureL, go_sem, AC.pure]; done) | (simp only [List.all_cons, List.all_nil, Bool.and_true]; exact pureO_gr (pureL_map _ (fun x => by simp [go_sem, AC.pure]))) | ((try simp only [List.map_cons, List.map_nil, av_ren_gr]); simp [AV.ren, AV.ren1, AC.ren, pickS]; first | done | omega) | (simp only [List.forall_mem_cons, List.not_mem_nil, false_implies, implies_true, and_true]; (repeat' apply And.intro) <;> first | trivial | exact grV_ok (by simp) _ | exact okN_grO (fun x => by simp [go_sem, AC.pure]) | exact okN_map (fun x => by simp [go_sem, AC.pure]) | (simp [AV.ok, AV.ok1, AC.ok]; done) | (simp [AV.ok, AV.ok1, AC.ok]; omega) | (simp [AObj.okN, AC.ok]; done)) | (simp [AObj.okN]; done))
    · simp (disch := first | omega | (simp only [go_sem]; first | done | omega)) only [go_sem, hlt]
      rw [← hG, List.append_assoc]
      exact Ret.frzGrT L.length hH (Nat.le_refl _) (by rw [List.getElem?_append_right (Nat.le_refl _), Nat.sub_self]; rfl) (pureL_map _ (fun x => by simp [go_sem, AC.pure])) rfl (by simp [map_grV]) hk
  · rw [if_neg hE] at hk
    refine acalls Tryz.func13 rfl (by kernel_rfl) (by simp (disch := first | omega | (simp only [go_sem]; first | done | omega)) only [go_sem]) (fun hH => ?_)
    simp (disch := first | omega | (simp only [go_sem]; first | done | omega)) only [go_sem]
    refine bfFault_a c p l hlen ht ?_
    simp (disch := first | omega | (simp only [go_sem]; first | done | omega)) only [go_sem, hE]
    exact Ret.nilS (Nat.le_refl _) rfl hk
theorem dropped_a (c p : Int) (l : List Stp) (hlen : l.length ≤ 1099511627776) (ht : ∀ x ∈ l, x.tag.size ≤ 1099511627776)
    (hk : K (.tup [.c (.lst 2 ((if bfE c p l = 0 then rowsF (srtI (playF c p l).drp) else []).map encRw)), (.c (.int .i64 (bfE c p l)))]) H) : ACalls Tryz.prog 15 [(.c (.int .i64 c)), (.c (.int .i64 p)), .c (.lst 7 (l.map encStp))] H K := by
  by_cases hE : bfE c p l = 0
  · obtain ⟨e1, e2⟩ := bfE_ok hE
    obtain ⟨e3, e4⟩ := cnt_ok e1
    have hbd := play_bd c p l l.length (Nat.le_refl _) e3
    rw [List.take_length] at hbd
    rw [if_pos hE, hE] at hk
    refine acalls Tryz.func15 rfl (by kernel_rfl) (by simp (disch := first | omega | (simp only [go_sem]; first | done | omega)) only [go_sem]) (fun hH => ?_)
    simp (disch := first | omega | (simp only [go_sem]; first | done | omega)) only [go_sem]
    refine bfFault_a c p l hlen ht ?_
    rw [hE]
    simp (disch := first | omega | (simp only [go_sem]; first | done | omega)) only [go_sem]
    refine nplay_a c p l e3 e4 (fun L s hN => ?_)
    obtain ⟨b1, b2, b3, b4, b5, b6⟩ := hbd
    have hc := hN.hc
    have hcl := getElem?_lt hc
    obtain ⟨j, hj1, hj2⟩ := new_at hN.hd (fun q ob hq he => (hN.pre q ob hq).2 (by subst he; simp))
    have hd := hN.hd
    unfold nodeO at hc
    simp (disch := first | omega | (simp only [go_sem]; first | done | omega)) only [go_sem, hc, hcl]
    refine rows_a _ hd (by omega) ?_ ?_
    · intro x hx
      have hok := play_ok e2.1 ⟨e2.2.2.1, e2.2.2.2⟩ l
      have := hok.drng x hx
      omega
    · rw [hj1, List.set_append_right _ _ (by omega)]
      simp (disch := first | omega | (simp only [go_sem]; first | done | omega)) only [go_sem]
      exact Ret.drop hH (Nat.le_refl _) (by simp [AV.ok, AV.ok1, AC.ok]) hk
  · rw [if_neg hE] at hk
    refine acalls Tryz.func15 rfl (by kernel_rfl) (by simp (disch := first | omega | (simp only [go_sem]; first | done | omega)) only [go_sem]) (fun hH => ?_)
    simp (disch := first | omega | (simp only [go_sem]; first | done | omega)) only [go_sem]
    refine bfFault_a c p l hlen ht ?_
    simp (disch := first | omega | (simp only [go_sem]; first | done | omega)) only [go_sem, hE]
    exact Ret.nilS (Nat.le_refl _) rfl hk
def needR (l : List Stp) : Int × Int := if stpF l ≠ 0 then (0, stpF l) else if 1000 < max 2 (playF 0 1 l).most then (0, 12) else (max 2 (playF 0 1 l).most, 0)
theorem needed_a (l : List Stp) (hlen : l.length ≤ 1099511627776) (ht : ∀ x ∈ l, x.tag.size ≤ 1099511627776)
    (hk : K (.tup [(.c (.int .i64 ((needR l).1))), (.c (.int .i64 ((needR l).2)))]) H) : ACalls Tryz.prog 16 [.c (.lst 7 (l.map encStp))] H K := by
  by_cases hE : stpF l = 0
  · obtain ⟨e3, e4⟩ := cnt_ok hE
    have hbd := play_bd 0 1 l l.length (Nat.le_refl _) e3
    rw [List.take_length] at hbd
    obtain ⟨b1, b2, b3, b4, b5, b6⟩ := hbd
    unfold needR at hk
    rw [if_neg (fun h => h hE)] at hk
    refine acalls Tryz.func16 rfl (by kernel_rfl) (by simp (disch := first | omega | (simp only [go_sem]; first | done | omega)) only [go_sem]) (fun hH => ?_)
    simp (disch := first | omega | (simp only [go_sem]; first | done | omega)) only [go_sem]
    refine checkSteps_a l hlen ht ?_
    rw [hE]
    simp (disch := first | omega | (simp only [go_sem]; first | done | omega)) only [go_sem]
    refine nplay_a 0 1 l e3 e4 (fun L s hN => ?_)
    generalize playF 0 1 l = nd at *
    have hc := hN.hc
    have hcl := getElem?_lt hc
    unfold nodeO at hc
    by_cases hm : 1000 < max 2 nd.most
    · rw [if_pos hm] at hk
      simp (disch := first | omega | (simp only [go_sem]; first | done | omega)) only [go_sem, hc, hcl, hm]
      exact Ret.drop hH (Nat.le_refl _) (by simp [AV.ok, AV.ok1, AC.ok]) hk
    · rw [if_neg hm] at hk
      simp (disch := first | omega | (simp only [go_sem]; first | done | omega)) only [go_sem, hc, hcl, hm]
      exact Ret.drop hH (Nat.le_refl _) (by simp [AV.ok, AV.ok1, AC.ok]) hk
  · unfold needR at hk
    rw [if_pos hE] at hk
    refine acalls Tryz.func16 rfl (by kernel_rfl) (by simp (disch := first | omega | (simp only [go_sem]; first | done | omega)) only [go_sem]) (fun hH => ?_)
    simp (disch := first | omega | (simp only [go_sem]; first | done | omega)) only [go_sem]
    refine checkSteps_a l hlen ht ?_
    simp (disch := first | omega | (simp only [go_sem]; first | done | omega)) only [go_sem, hE]
    exact Ret.same (Nat.le_refl _) hk
theorem refused_a (c p : Int) (l : List Stp) (hlen : l.length ≤ 1099511627776) (ht : ∀ x ∈ l, x.tag.size ≤ 1099511627776)
    (hk : K (.tup [.c (.lst 1 ((if bfE c p l = 0 then (playF c p l).ref else []).map encI)), .c (.lst 1 ((if bfE c p l = 0 then (playF c p l).why else []).map encI)), (.c (.int .i64 (bfE c p l)))]) H) : ACalls Tryz.prog 12 [(.c (.int .i64 c)), (.c (.int .i64 p)), .c (.lst 7 (l.map encStp))] H K := by
  by_cases hE : bfE c p l = 0
  · obtain ⟨e1, e2⟩ := bfE_ok hE
    obtain ⟨e3, e4⟩ := cnt_ok e1
    rw [if_pos hE, if_pos hE, hE] at hk
    have hrw := play_rw c p l l.length (Nat.le_refl _)
    rw [List.take_length] at hrw
    refine acalls Tryz.func12 rfl (by kernel_rfl) (by simp (disch := first | omega | (simp only [go_sem]; first | done | omega)) only [go_sem]) (fun hH => ?_)
    simp (disch := first | omega | (simp only [go_sem]; first | done | omega)) only [go_sem]
    refine bfFault_a c p l hlen ht ?_
    rw [hE]
    simp (disch := first | omega | (simp only [go_sem]; first | done | omega)) only [go_sem]
    refine nplay_a c p l e3 e4 (fun L s hN => ?_)
    generalize playF c p l = nd at *
    have hc := hN.hc
    have hcl := getElem?_lt hc
    unfold nodeO at hc
    simp (disch := first | omega | (simp only [go_sem]; first | done | omega)) only [go_sem]
    repeat' (first | ((first | refine acond_d ?_ ?_ | refine acond_b ?_ ?_ | refine ag_d ?_ ?_ | refine ag_n ?_ ?_ | refine ag_bt ?_ ?_ | refine ag_bf ?_ ?_ | refine agt_d ?_ ?_ | refine agt_n ?_ ?_ | refine agt_bt ?_ ?_ | refine agt_bf ?_ ?_) <;> intro c <;> try simp (disch := first | omega | (simp only [go_sem]; first | done | omega)) only [go_sem, c, hc, hcl]) | ((first | refine w_draw (by kernel_rfl) (by decide +kernel) ?_ | refine w_tree (.one 0 (.one 1 (.one 2 (.one 3 (.one 4 (.one 5 (.one 6 (.one 7 (.one 8 (.one 9 (.one 10 .done))))))))))) (by kernel_rfl) (by decide +kernel) ?_) <;> try simp (disch := first | omega | (simp only [go_sem]; first | done | omega)) only [go_sem, hc, hcl]) | (refine And.intro ?_ ?_ <;> try simp (disch := first | omega | (simp only [go_sem]; first | done | omega)) only [go_sem, hc, hcl]))
    all_goals
      obtain ⟨j, hj1, hj2⟩ := new_at hN.hr (fun q ob hq he => (hN.pre q ob hq).2 (by subst he; simp))
      obtain ⟨i, hi1, hi2⟩ := new_at hN.hw (fun q ob hq he => (hN.pre q ob hq).2 (by subst he; simp))
      have hij : j ≠ i := by
        have ne := hN.ne
        simp only [List.nodup_cons, List.mem_cons, List.not_mem_nil, or_false, not_or] at ne
        omega
      have hpi : ∀ l : List Int, pureL (l.map encI) = true := fun l => pureL_map l (fun x => by simp [go_sem, AC.pure])
      by_cases h0 : nd.ref = []
      · have h1 : nd.why = [] := List.length_eq_zero_iff.1 (by rw [← hrw, h0]; rfl)
        rw [h0, h1] at hk ⊢
        rw [grV_nil, grV_nil]
        exact Ret.nil [1, 1] (by simp) (Ret.cut hH (Nat.le_refl _) (by simp [AV.nilz, AV.nilz.go, AC.nilz, AV.ok, AV.ok1, AC.ok]) (Ret.same (Nat.le_refl _) hk))
      · have h1 : nd.why ≠ [] := by intro h; rw [h] at hrw; exact h0 (List.length_eq_zero_iff.1 hrw)
        rw [grO_pos _ _ (by simpa using h0)] at hj2
        rw [grO_pos _ _ (by simpa using h1)] at hi2
        rw [grV_pos _ h0, grV_pos _ h1, hj1, hi1]
        exact Ret.frzAt2 j i hH (Nat.le_refl _) hk hj2 hi2 hij (hpi _) (hpi _) (by simp [AV.ok, AV.ok1, AC.ok]) (by simp [AV.frz, AV.frz1, AC.frz, hij, Ne.symm hij, List.take_of_length_le])
  · rw [if_neg hE, if_neg hE] at hk
    refine acalls Tryz.func12 rfl (by kernel_rfl) (by simp (disch := first | omega | (simp only [go_sem]; first | done | omega)) only [go_sem]) (fun hH => ?_)
    simp (disch := first | omega | (simp only [go_sem]; first | done | omega)) only [go_sem]
    refine bfFault_a c p l hlen ht ?_
    simp (disch := first | omega | (simp only [go_sem]; first | done | omega)) only [go_sem, hE]
    exact Ret.nil [1, 1] (Nat.le_refl _) (Ret.same (Nat.le_refl _) hk)
end Go.Proofs.YtnpdbnkgipkgaaaGreat
