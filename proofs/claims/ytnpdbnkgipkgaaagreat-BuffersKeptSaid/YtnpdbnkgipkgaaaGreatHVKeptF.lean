/- The document's answer: what a buffer holds, sent, dropped, refused, and needs. Condition: the steps are right. -/
import Derived.Test.YtnpdbnkgipkgaaaGreatHVKeptE
import Derived.Test.YtnpdbnkgipkgaaaGreatHVBufG
namespace Go.Proofs.YtnpdbnkgipkgaaaGreat
open Go Go.RowKit
set_option maxRecDepth 100000
set_option linter.all false
set_option maxHeartbeats 2000000
variable {H : Hp} {K : AV → Hp → Prop}
structure RunOk (c p : Int) (l : List Stp) : Prop where
  len : l.length ≤ 2000
  cnt : ∀ x ∈ l, x.kind = 2 → x.count ≤ 1000000
  kd : ∀ x ∈ l, x.kind = 1 ∨ x.kind = 2 ∨ x.kind = 3 ∨ x.kind = 4
  pos : 0 < c
  pol : p = 1 ∨ p = 2 ∨ p = 3
  cap : ∀ k, k ≤ l.length → ((playF c p (l.take k)).l.length : Int) ≤ c
theorem stp_kind {x : Stp} (h : stpErr x = 0) : x.kind = 1 ∨ x.kind = 2 ∨ x.kind = 3 ∨ x.kind = 4 := by
  unfold stpErr at h
  by_cases h1 : x.kind = 1
  · exact .inl h1
  · by_cases h2 : x.kind = 2
    · exact .inr (.inl h2)
    · by_cases h3 : x.kind = 3
      · exact .inr (.inr (.inl h3))
      · by_cases h4 : x.kind = 4
        · exact .inr (.inr (.inr h4))
        · rw [if_neg h1, if_neg h2, if_neg h3, if_neg h4] at h; cases h
theorem run_ok {c p : Int} {l : List Stp} (h : bfE c p l = 0) : RunOk c p l := by
  obtain ⟨e1, e2, e3, e4, e5⟩ := bfE_ok h
  obtain ⟨h1, h2⟩ := stpF_all e1
  refine ⟨h1, (cnt_ok e1).2, fun x hx => stp_kind (h2 x hx), by omega, by omega, fun k hk => ?_⟩
  exact (play_ok e2 ⟨e4, e5⟩ (l.take k)).cap
theorem run_ok2 {l : List Stp} (h : stpF l = 0) : RunOk ((l.length : Int) + 1) 2 l ∧ playF ((l.length : Int) + 1) 2 l = playF 0 1 l := by
  obtain ⟨h1, h2⟩ := stpF_all h
  refine ⟨⟨h1, (cnt_ok h).2, fun x hx => stp_kind (h2 x hx), by omega, by omega, fun k hk => ?_⟩, ?_⟩
  · have := (play_bd ((l.length : Int) + 1) 2 l k hk (by omega)).b
    omega
  · have hb := (play_bd 0 1 l l.length (Nat.le_refl _) h1).f
    rw [List.take_length] at hb
    have := play_same (n := (l.length : Int) + 1) (p := 2) (l := l) (by omega) l.length (Nat.le_refl _)
    rwa [List.take_length] at this
theorem nrunK_a {c p : Int} {l : List Stp} (h : RunOk c p l) (hk : ∀ L s, NodeR H.length (fun q => H[q]?) c p (playF c p l) s (H ++ L) → HOk (H ++ L) → K (.c (.ptr (some (H.length, 0, 0)))) (H ++ L)) : ACalls Tryz.prog 67 [(.c (.int .i64 c)), (.c (.int .i64 p)), .c (.lst 7 (l.map encStp))] H K :=
  ACalls.hok (nrun_a c p l h.len h.cnt h.kd h.pos h.pol h.cap (fun L s hN hG => hk L s hN hG))
theorem sentOf_a (c p : Int) (l : List Stp) (h : RunOk c p l) (hk : K (.c (.lst 5 ((playF c p l).out.map encPk))) H) : ACalls Tryz.prog 21 [(.c (.int .i64 c)), (.c (.int .i64 p)), .c (.lst 7 (l.map encStp))] H K := by
  refine acalls Tryz.func21 rfl (by kernel_rfl) (by simp (disch := first | omega | (simp only [go_sem]; first | done | omega)) only [go_sem]) (fun hH => ?_)
  simp (disch := first | omega | (simp only [go_sem]; first | done | omega)) only [go_sem]
  refine nrunK_a h (fun L s hN _ => ?_)
  have hc := hN.hc
  have hcl := getElem?_lt hc
  obtain ⟨j, hj1, hj2⟩ := new_at hN.ho (fun q ob hq he => (hN.pre q ob hq).2 (by subst he; simp))
  unfold nodeRO at hc
  simp (disch := first | omega | (simp only [go_sem]; first | done | omega)) only [go_sem, hc, hcl]
  exact Ret.frzGr j hH (Nat.le_refl _) hj2 (pureL_map _ (fun x => by simp [go_sem, AC.pure])) (by rw [map_grV, ← hj1]) hk
theorem bufferedOf_a (c p : Int) (l : List Stp) (h : RunOk c p l) (hk : K (.c (.lst 5 (((playF c p l).l.map (fun x => x.p)).map encPk))) H) : ACalls Tryz.prog 20 [(.c (.int .i64 c)), (.c (.int .i64 p)), .c (.lst 7 (l.map encStp))] H K := by
  have e3 := h.len
  have hbd := play_bd c p l l.length (Nat.le_refl _) h.len
  rw [List.take_length] at hbd
  refine acalls Tryz.func20 rfl (by kernel_rfl) (by simp (disch := first | omega | (simp only [go_sem]; first | done | omega)) only [go_sem]) (fun hH => ?_)
  simp (disch := first | omega | (simp only [go_sem]; first | done | omega)) only [go_sem]
  refine nrunK_a h (fun L s hN hHG => ?_)
  obtain ⟨b1, b2, b3, b4, b5, b6⟩ := hbd
  generalize playF c p l = nd at *
  have hc := hN.hc
  have hcl := getElem?_lt hc
  have hl := hN.hl
  have hll := getElem?_lt hl
  unfold nodeRO at hc
  simp (disch := first | omega | (simp only [go_sem]; first | done | omega)) only [go_sem, hc, hcl]
  generalize hG : H ++ L = G at *
  have hGe : H.length ≤ G.length := by rw [← hG]; simp
  have hsl : ∀ m, s.l < m → AC.ok m (hdV s.b s.l nd.l) := by
    intro m hm
    unfold hdV
    split
    · exact hm
    · exact grV_ok hm _
  have hsl2 := hsl G.length hll
  refine AWp.loop (G.length) [16, 17] [18, 7] (fun (k : Nat) => k ≤ nd.l.length) (fun (k : Nat) => [(18, (.c (.int .i64 k))), (7, .c (grV G.length ((nd.l.take k).map (fun x => x.p))))]) (fun (k : Nat) => G ++ [grO 56 5 (((nd.l.take k).map (fun x => x.p)).map encPk)]) (fun (k : Nat) => nd.l.length - k) (by kernel_rfl) (fun _ => rfl) (by kernel_rfl) (by first | (simp; done) | omega) (by first | (simp; done) | (simp; omega) | omega) (by (try simp only [List.forall_mem_cons, List.not_mem_nil, false_implies, implies_true, and_true]); (try simp (disch := first | omega | (simp only [go_sem]; first | done | omega)) only [go_sem]); all_goals first | trivial | (simp [AV.ok, AV.ok1, AC.ok]; done) | (simp [AV.ok, AV.ok1, AC.ok]; omega) | (simp [AV.ok, AV.ok1, AC.ok]; assumption) | ((repeat' apply And.intro) <;> first | trivial | (simp [AV.ok, AV.ok1, AC.ok]; done) | (simp [AV.ok, AV.ok1, AC.ok]; omega) | (simp [AV.ok, AV.ok1, AC.ok]; assumption) | (refine grV_ok ?_ _; first | (simp; done) | (simp; omega) | omega))) ?_ (fun k hk1 _ _ => ?_)
  · refine Next.mk 0 (Nat.zero_le _) ?_
    exact WkL.pad (Nat.le_refl _)
  by_cases hlt : k < nd.l.length
  · have hne : nd.l ≠ [] := by intro h; rw [h] at hlt; simp at hlt
    have hlr := hl
    rw [kdO_pos _ hne] at hlr
    obtain ⟨x, hx⟩ : ∃ x, x = nd.l[k] := ⟨_, rfl⟩
    obtain ⟨o, ho⟩ : ∃ o, o = (nd.l.take k).map (fun x => x.p) := ⟨_, rfl⟩
    have hol : o.length ≤ k := by rw [ho, List.length_map, List.length_take]; omega
    obtain ⟨o2, ho2⟩ : ∃ o2, o2 = o ++ [x.p] := ⟨_, rfl⟩
    have hnx : (nd.l.take (k + 1)).map (fun x => x.p) = o2 := by rw [ho2, List.take_succ_eq_append_getElem hlt, List.map_append, ← ho, hx]; rfl
    rw [← ho, hdV_pos _ _ hne]
    simp (disch := first | omega | (simp only [go_sem]; first | done | omega)) only [go_sem, hlt, hlr, hll, ← hx]
    refine appPk o x.p o2 ho2 (by first | exact at0 (by simp) | exact at1 (by simp) | exact at2 (by simp) | exact at3 (by simp) | exact at4 (by simp) | exact at5 (by simp) | exact atG 6 (by simp) rfl | exact atG 7 (by simp) rfl | exact atG 8 (by simp) rfl | exact atG 9 (by simp) rfl | exact atG 10 (by simp) rfl | exact atG 11 (by simp) rfl | exact atG 12 (by simp) rfl | exact atG 13 (by simp) rfl | exact atG 14 (by simp) rfl | exact atG 15 (by simp) rfl | assumption) (by first | exact at0 (by simp) | exact at1 (by simp) | exact at2 (by simp) | exact at3 (by simp) | exact at4 (by simp) | exact at5 (by simp) | exact atG 6 (by simp) rfl | exact atG 7 (by simp) rfl | exact atG 8 (by simp) rfl | exact atG 9 (by simp) rfl | exact atG 10 (by simp) rfl | exact atG 11 (by simp) rfl | exact atG 12 (by simp) rfl | exact atG 13 (by simp) rfl | exact atG 14 (by simp) rfl | exact atG 15 (by simp) rfl | assumption) (by omega) ?_
    simp (disch := first | omega | (simp only [go_sem]; first | done | omega)) only [go_sem]
    refine Next.mk (k + 1) ⟨hlt, by omega⟩ ?_
    rw [hnx]
    ((try simp (disch := first | omega | (simp only [go_sem]; first | done | omega)) only [go_sem]); (first | refine WkL.pick [0] ?_ ?_ rfl ?_ ?_ ?_ ?_ | refine WkL.pick [1] ?_ ?_ rfl ?_ ?_ ?_ ?_ | refine WkL.pick [2] ?_ ?_ rfl ?_ ?_ ?_ ?_ | refine WkL.pick [3] ?_ ?_ rfl ?_ ?_ ?_ ?_ | refine WkL.pick [4] ?_ ?_ rfl ?_ ?_ ?_ ?_ | refine WkL.pick [5] ?_ ?_ rfl ?_ ?_ ?_ ?_ | refine WkL.pick [6] ?_ ?_ rfl ?_ ?_ ?_ ?_ | refine WkL.pick [7] ?_ ?_ rfl ?_ ?_ ?_ ?_ | refine WkL.pick [8] ?_ ?_ rfl ?_ ?_ ?_ ?_ | refine WkL.pick [9] ?_ ?_ rfl ?_ ?_ ?_ ?_ | refine WkL.pick [10] ?_ ?_ rfl ?_ ?_ ?_ ?_ | refine WkL.pick [11] ?_ ?_ rfl ?_ ?_ ?_ ?_ | refine WkL.pick [12] ?_ ?_ rfl ?_ ?_ ?_ ?_ | refine WkL.pick [13] ?_ ?_ rfl ?_ ?_ ?_ ?_ | refine WkL.pick [14] ?_ ?_ rfl ?_ ?_ ?_ ?_ | refine WkL.pick [15] ?_ ?_ rfl ?_ ?_ ?_ ?_) <;> first | assumption | exact HOk.str (by assumption) | (simp; done) | (simp; omega) | (simp [pureO_gr, AObj.pureO, pureL, go_sem, AC.pure]; done) | (simp only [List.all_cons, List.all_nil, Bool.and_true]; exact pureO_gr (pureL_map _ (fun x => by simp [go_sem, AC.pure]))) | ((try simp only [List.map_cons, List.map_nil, av_ren_gr]); simp [AV.ren, AV.ren1, AC.ren, pickS]; first | done | omega) | (simp only [List.forall_mem_cons, List.not_mem_nil, false_implies, implies_true, and_true]; (repeat' apply And.intro) <;> first | trivial | exact grV_ok (by simp) _ | exact okN_grO (fun x => by simp [go_sem, AC.pure]) | exact okN_map (fun x => by simp [go_sem, AC.pure]) | (simp [AV.ok, AV.ok1, AC.ok]; done) | (simp [AV.ok, AV.ok1, AC.ok]; omega) | (simp [AObj.okN, AC.ok]; done)) | (simp [AObj.okN]; done))
  · simp (disch := first | omega | (simp only [go_sem]; first | done | omega)) only [go_sem, hlt]
    rw [← hG, List.append_assoc]
    exact Ret.frzGr L.length hH (Nat.le_refl _) (by rw [List.getElem?_append_right (Nat.le_refl _), Nat.sub_self]; rfl) (pureL_map _ (fun x => by simp [go_sem, AC.pure])) (by simp [map_grV]) hk
theorem refusedSteps_a (c p : Int) (l : List Stp) (h : RunOk c p l) (hk : K (.tup [.c (.lst 1 ((playF c p l).ref.map encI)), .c (.lst 1 ((playF c p l).why.map encI))]) H) : ACalls Tryz.prog 19 [(.c (.int .i64 c)), (.c (.int .i64 p)), .c (.lst 7 (l.map encStp))] H K := by
  have hrw := play_rw c p l l.length (Nat.le_refl _)
  rw [List.take_length] at hrw
  refine acalls Tryz.func19 rfl (by kernel_rfl) (by simp (disch := first | omega | (simp only [go_sem]; first | done | omega)) only [go_sem]) (fun hH => ?_)
  simp (disch := first | omega | (simp only [go_sem]; first | done | omega)) only [go_sem]
  refine nrunK_a h (fun L s hN _ => ?_)
  generalize playF c p l = nd at *
  have hc := hN.hc
  have hcl := getElem?_lt hc
  unfold nodeRO at hc
  simp (disch := first | omega | (simp only [go_sem]; first | done | omega)) only [go_sem]
  repeat' (first | ((first | refine acond_d ?_ ?_ | refine acond_b ?_ ?_ | refine ag_d ?_ ?_ | refine ag_n ?_ ?_ | refine ag_bt ?_ ?_ | refine ag_bf ?_ ?_ | refine agt_d ?_ ?_ | refine agt_n ?_ ?_ | refine agt_bt ?_ ?_ | refine agt_bf ?_ ?_) <;> intro c <;> try simp (disch := first | omega | (simp only [go_sem]; first | done | omega)) only [go_sem, c, hc, hcl]) | ((first | refine w_draw (by kernel_rfl) (by decide +kernel) ?_ | refine w_tree (.one 0 (.one 1 (.one 2 (.one 3 (.one 4 (.one 5 (.one 6 (.one 7 (.one 8 (.one 9 .done)))))))))) (by kernel_rfl) (by decide +kernel) ?_) <;> try simp (disch := first | omega | (simp only [go_sem]; first | done | omega)) only [go_sem, hc, hcl]) | (refine And.intro ?_ ?_ <;> try simp (disch := first | omega | (simp only [go_sem]; first | done | omega)) only [go_sem, hc, hcl]))
  all_goals
    obtain ⟨j, hj1, hj2⟩ := new_at hN.hr (fun q ob hq he => (hN.pre q ob hq).2 (by subst he; simp))
    obtain ⟨i, hi1, hi2⟩ := new_at hN.hw (fun q ob hq he => (hN.pre q ob hq).2 (by subst he; simp))
    have hij : j ≠ i := by
      have ne := hN.ne
      simp only [List.nodup_cons, List.mem_cons, List.not_mem_nil, or_false, not_or] at ne
      omega
    have hpi : ∀ l : List Int, pureL (l.map encI) = true := fun l => pureL_map l (fun x => by simp [go_sem, AC.pure])
    by_cases h0 : nd.ref = []
    · have h1 : nd.why = [] := List.length_eq_zero_iff.1 (by rw [← hrw, h0]; rfl)
      rw [h0, h1] at hk ⊢
      rw [grV_nil, grV_nil]
      exact Ret.nil [1, 1] (by simp) (Ret.cut hH (Nat.le_refl _) (by simp [AV.nilz, AV.nilz.go, AC.nilz, AV.ok, AV.ok1, AC.ok]) (Ret.same (Nat.le_refl _) hk))
    · have h1 : nd.why ≠ [] := by intro h; rw [h] at hrw; exact h0 (List.length_eq_zero_iff.1 hrw)
      rw [grO_pos _ _ (by simpa using h0)] at hj2
      rw [grO_pos _ _ (by simpa using h1)] at hi2
      rw [grV_pos _ h0, grV_pos _ h1, hj1, hi1]
      exact Ret.frzAt2 j i hH (Nat.le_refl _) hk hj2 hi2 hij (hpi _) (hpi _) (by simp [AV.ok, AV.ok1, AC.ok]) (by simp [AV.frz, AV.frz1, AC.frz, hij, Ne.symm hij, List.take_of_length_le])
theorem neededOf_a (l : List Stp) (h : stpF l = 0) (hk : K (.tup [(.c (.int .i64 ((needR l).1))), (.c (.int .i64 ((needR l).2)))]) H) : ACalls Tryz.prog 23 [.c (.lst 7 (l.map encStp))] H K := by
  obtain ⟨r1, r2⟩ := run_ok2 h
  have e3 := r1.len
  unfold needR at hk
  rw [if_neg (fun h2 => h2 h)] at hk
  have hbd := play_bd 0 1 l l.length (Nat.le_refl _) e3
  rw [List.take_length] at hbd
  obtain ⟨b1, b2, b3, b4, b5, b6⟩ := hbd
  refine acalls Tryz.func23 rfl (by kernel_rfl) (by simp (disch := first | omega | (simp only [go_sem]; first | done | omega)) only [go_sem]) (fun hH => ?_)
  simp (disch := first | omega | (simp only [go_sem]; first | done | omega)) only [go_sem]
  refine nrunK_a r1 (fun L s hN _ => ?_)
  rw [r2] at hN
  generalize playF 0 1 l = nd at *
  have hc := hN.hc
  have hcl := getElem?_lt hc
  unfold nodeRO at hc
  by_cases hm : 1000 < max 2 nd.most
  · rw [if_pos hm] at hk
    simp (disch := first | omega | (simp only [go_sem]; first | done | omega)) only [go_sem, hc, hcl, hm]
    exact Ret.drop hH (Nat.le_refl _) (by simp [AV.ok, AV.ok1, AC.ok]) hk
  · rw [if_neg hm] at hk
    simp (disch := first | omega | (simp only [go_sem]; first | done | omega)) only [go_sem, hc, hcl, hm]
    exact Ret.drop hH (Nat.le_refl _) (by simp [AV.ok, AV.ok1, AC.ok]) hk
end Go.Proofs.YtnpdbnkgipkgaaaGreat
