/- The document's answer: a packet put into a buffer. No condition. -/
import Derived.Test.YtnpdbnkgipkgaaaGreatHVKeptB
namespace Go.Proofs.YtnpdbnkgipkgaaaGreat
open Go Go.RowKit
set_option maxRecDepth 100000
set_option linter.all false
set_option maxHeartbeats 2000000
variable {H : Hp} {K : AV → Hp → Prop}
theorem appKp {i q ty : Nat} {own b : Bool} {J : AV → Hp → Prop} (l : List Hd) (x : Hd) (l2 : List Hd) (e : l2 = l ++ [x]) (hi : H[i]? = some (kdO b l)) (hj : H[q]? = some (.row ty 6 [encHd x] own)) (hb : l.length ≤ 1000000000)
    (h : J (.c (hdV true H.length l2)) (H.set i .dead ++ [kdO true l2])) : aBuiltin Tryz.prog .append #[116, 116] [.c (hdV b i l), .c (.sl (some (q, 0)) 1)] H J := by
  subst e
  cases b
  · refine app_grR (enc := encHd) (e := 120) (sz := 6) (bs := 56) (z := zHd) l [x] (by kernel_rfl) (by kernel_rfl) (by kernel_rfl) (by kernel_rfl) hi (by rw [hj]; rfl) (by simp) rfl (by decide) (by simp; omega) (by simp; omega) ?_
    rw [grV_pos _ (by simp), grO_pos _ _ (by simp)]
    exact h
  · refine app_sl ?_
    rw [show elemT Tryz.prog 116 = some 120 by kernel_rfl]
    simp only [Option.bind_some, Option.elim_some]
    rw [show zeroT Tryz.prog 120 = some zHd by kernel_rfl, show szT Tryz.prog 120 = 6 by kernel_rfl, show Tryz.prog.bytesOf 120 = 56 by kernel_rfl, hj]
    refine ⟨trivial, rfl, ?_⟩
    show _ ∧ _
    refine ⟨rfl, ?_⟩
    rw [hi]
    show aIf _ _ _ _
    refine ⟨⟨rfl, rfl, by simp, by decide, by simp; omega, by simp; omega⟩, ?_⟩
    rw [show List.take l.length (l.map encHd) = l.map encHd from List.take_of_length_le (by simp)]
    have e1 : hdV true H.length (l ++ [x]) = .sl (some (H.length, 0)) (l.length + 1) := by simp [hdV]
    have e2 : kdO true (l ++ [x]) = .row 120 6 (l.map encHd ++ [encHd x]) true := by simp [kdO]
    rw [e1, e2] at h
    exact h
theorem rput_a {G : Hp} {c0 : Nat} {S : Nat → Option AObj} {cc pp : Int} {nd : Nd} {s : Nr} (x : Stp) (hN : NodeR c0 S cc pp nd s G) (hcap : (nd.l.length : Int) ≤ cc) (hc0 : 0 < cc) (hpp : pp = 1 ∨ pp = 2 ∨ pp = 3) (h1 : nd.l.length ≤ 100000) (h2 : nd.drp.length ≤ 100000) (h3 : 0 ≤ nd.last ∧ nd.last ≤ 100000)
    (hk : ∀ G' s', NodeR c0 S cc pp (putF cc pp x nd) s' G' → K (.tup []) G') : ACalls Tryz.prog 142 [.c (.ptr (some (c0, 0, 0))), (.c (.str (x.tag))), .agg (encS x.s)] G K := by
  have hc' := hN.hc
  have hcl := getElem?_lt hc'
  unfold nodeRO at hc'
  have pre := hN.pre
  refine acallsS Tryz.func142 rfl (by simp (disch := first | omega | (simp only [go_sem]; first | done | omega)) only [go_sem]) (fun hH => ?_)
  refine SWp.go (by kernel_rfl) ?_
  simp (disch := first | omega | (simp only [go_sem]; first | done | omega)) only [go_sem]
  refine SWp.go (by kernel_rfl) ?_
  simp (disch := first | omega | (simp only [go_sem]; first | done | omega)) only [go_sem, hc', hcl]
  obtain ⟨y, hy⟩ : ∃ y : Pk, y = ⟨nd.last + 1, x.tag, x.s⟩ := ⟨_, rfl⟩
  obtain ⟨nd1, hnd1⟩ : ∃ nd1 : Nd, nd1 = { nd with last := nd.last + 1 } := ⟨_, rfl⟩
  refine SWp.cut (G.length + 1) [0] [6] (fun (u : Unit) => True) (fun (u : Unit) => [(6, .c (.ptr (some (G.length + 1, 0, 0))))]) (fun (u : Unit) => G.set c0 (nodeRO cc pp nd1 s) ++ [.row 54 3 [encS x.s] true, .row 56 5 [encPk y] true]) (fun _ => rfl) (by kernel_rfl) (by first | (simp; done) | omega) (by first | (simp; done) | (simp; omega) | omega) (by (try simp only [List.forall_mem_cons, List.not_mem_nil, false_implies, implies_true, and_true]); (try simp (disch := first | omega | (simp only [go_sem]; first | done | omega)) only [go_sem]); all_goals first | trivial | (simp [AV.ok, AV.ok1, AC.ok]; done) | (simp [AV.ok, AV.ok1, AC.ok]; omega) | (simp [AV.ok, AV.ok1, AC.ok]; assumption) | ((repeat' apply And.intro) <;> first | trivial | (simp [AV.ok, AV.ok1, AC.ok]; done) | (simp [AV.ok, AV.ok1, AC.ok]; omega) | (simp [AV.ok, AV.ok1, AC.ok]; assumption) | (refine grV_ok ?_ _; first | (simp; done) | (simp; omega) | omega))) ?_ (fun u _ _ _ => ?_)
  · refine SWp.of (by kernel_rfl) ?_
    repeat' (first | ((first | refine acond_d ?_ ?_ | refine acond_b ?_ ?_ | refine ag_d ?_ ?_ | refine ag_n ?_ ?_ | refine ag_bt ?_ ?_ | refine ag_bf ?_ ?_ | refine agt_d ?_ ?_ | refine agt_n ?_ ?_ | refine agt_bt ?_ ?_ | refine agt_bf ?_ ?_) <;> intro c <;> try simp (disch := first | omega | (simp only [go_sem]; first | done | omega)) only [go_sem, c, hcl]) | ((first | refine w_draw (by kernel_rfl) (by decide +kernel) ?_ | refine w_tree (.one 0 (.one 1 (.one 2 (.one 3 (.one 4 (.one 5 (.one 6 (.one 7 (.one 8 .done))))))))) (by kernel_rfl) (by decide +kernel) ?_) <;> try simp (disch := first | omega | (simp only [go_sem]; first | done | omega)) only [go_sem, hcl]) | (refine And.intro ?_ ?_ <;> try simp (disch := first | omega | (simp only [go_sem]; first | done | omega)) only [go_sem, hcl]))
    all_goals
      refine Next.mk () trivial ?_
      rw [hnd1, hy]
      simp (disch := first | omega | (simp only [go_sem]; first | done | omega)) only [go_sem, nodeRO]
      (try simp (disch := first | omega | (simp only [go_sem]; first | done | omega)) only [go_sem]); (first | refine WkL.eq ?_ ?_ | refine WkL.rest (by assumption) ?_ ?_ ?_ | refine WkL.keepL (by assumption) rfl ?_ ?_ ?_ ?_) <;> first | rfl | (simp; done) | (simp; omega) | (simp only [List.cons.injEq, AV.c.injEq, AC.int.injEq, AC.bool.injEq, AC.str.injEq, and_true, true_and, Int.natCast_add, Int.natCast_one, Int.cast_ofNat_Int]; omega) | (simp [AV.ok, AV.ok1, AC.ok]; done) | (simp [AV.ok, AV.ok1, AC.ok]; omega) | (simp only [List.forall_mem_cons, List.not_mem_nil, false_implies, implies_true, and_true]; (repeat' apply And.intro) <;> first | exact okN_map (fun x => by simp [go_sem, AC.pure]) | exact okN_grO (fun x => by simp [go_sem, AC.pure]) | (simp [AObj.okN, AC.ok]; done) | (simp [AObj.okN, AC.ok]; omega)) | (simp [*]; done) | grind
  have hN1 : NodeR c0 (addS S (G.length + 1) (.row 56 5 [encPk y] true)) cc pp nd1 s (G.set c0 (nodeRO cc pp nd1 s) ++ [.row 54 3 [encS x.s] true, .row 56 5 [encPk y] true]) := by
    obtain ⟨pre, hc, hl, ho, hd, hr, hw, ne⟩ := hN
    simp only [List.nodup_cons, List.mem_cons, List.not_mem_nil, or_false, not_or, List.nodup_nil, and_true, not_false_eq_true] at ne
    have hll := getElem?_lt hl
    have hol := getElem?_lt ho
    have hdl := getElem?_lt hd
    have hrl := getElem?_lt hr
    have hwl := getElem?_lt hw
    have key : ∀ q o, S q = some o → (G.set c0 (nodeRO cc pp nd1 s) ++ [.row 54 3 [encS x.s] true, .row 56 5 [encPk y] true])[q]? = some o ∧ q ∉ [c0, s.l, s.o, s.d, s.r, s.w] := by (first | (simp only [List.nodup_cons, List.mem_cons, List.not_mem_nil, or_false, not_or, List.nodup_nil, and_true, not_false_eq_true]; (try dsimp only); (repeat' apply And.intro) <;> omega) | (intro q o hq; obtain ⟨g1, g2⟩ := pre q o hq; have g3 := getElem?_lt g1; simp only [List.mem_cons, List.not_mem_nil, or_false, not_or] at g2 ⊢; refine ⟨?_, by (try dsimp only); omega⟩; (try rw [List.getElem?_append_left (by (try simp only [List.length_set]); omega)]); (repeat rw [List.getElem?_set_ne (by omega)]); exact g1) | ((try dsimp only); (try rw [List.getElem?_append_left (by (try simp only [List.length_set]); omega)]); (repeat rw [List.getElem?_set_ne (by omega)]); first | assumption | (rw [List.getElem?_set_self (by (try simp only [List.length_set]); omega)]; done) | (rw [List.getElem?_set_self (by (try simp only [List.length_set]); omega)]; rfl) | (rw [List.getElem?_set_self (by (try simp only [List.length_set]); omega)]; simp [nodeO, hdV, hdO, *]; done)) | ((try dsimp only); rw [List.getElem?_append_right (by (try simp only [List.length_set]); omega)]; (try simp only [List.length_set, Nat.add_sub_cancel_left, Nat.sub_self]); rfl))
    rw [hnd1] at key ⊢
    refine ⟨?_, ?_, ?_, ?_, ?_, ?_, ?_, ?_⟩
    · intro q o hq
      unfold addS at hq
      split at hq
      · rename_i hq2
        subst hq2
        injection hq with hq
        subst hq
        refine ⟨by rw [List.getElem?_append_right (by simp), List.length_set, Nat.add_sub_cancel_left]; rfl, ?_⟩
        simp only [List.mem_cons, List.not_mem_nil, or_false, not_or]
        omega
      · exact key q o hq
    all_goals (first | (simp only [List.nodup_cons, List.mem_cons, List.not_mem_nil, or_false, not_or, List.nodup_nil, and_true, not_false_eq_true]; (try dsimp only); (repeat' apply And.intro) <;> omega) | (intro q o hq; obtain ⟨g1, g2⟩ := pre q o hq; have g3 := getElem?_lt g1; simp only [List.mem_cons, List.not_mem_nil, or_false, not_or] at g2 ⊢; refine ⟨?_, by (try dsimp only); omega⟩; (try rw [List.getElem?_append_left (by (try simp only [List.length_set]); omega)]); (repeat rw [List.getElem?_set_ne (by omega)]); exact g1) | ((try dsimp only); (try rw [List.getElem?_append_left (by (try simp only [List.length_set]); omega)]); (repeat rw [List.getElem?_set_ne (by omega)]); first | assumption | (rw [List.getElem?_set_self (by (try simp only [List.length_set]); omega)]; done) | (rw [List.getElem?_set_self (by (try simp only [List.length_set]); omega)]; rfl) | (rw [List.getElem?_set_self (by (try simp only [List.length_set]); omega)]; simp [nodeO, hdV, hdO, *]; done)) | ((try dsimp only); rw [List.getElem?_append_right (by (try simp only [List.length_set]); omega)]; (try simp only [List.length_set, Nat.add_sub_cancel_left, Nat.sub_self]); rfl))
  have hNs : ∀ (o : AObj), S (G.length + 1) ≠ some o := fun o ho => by have := getElem?_lt (pre _ _ ho).1; omega
  clear hc' hN
  generalize G.set c0 (nodeRO cc pp nd1 s) ++ [.row 54 3 [encS x.s] true, .row 56 5 [encPk y] true] = G1 at *
  have hpr : G1[G.length + 1]? = some (.row 56 5 [encPk y] true) := (hN1.pre (G.length + 1) _ (by unfold addS; rw [if_pos rfl])).1
  have hG1l := getElem?_lt hpr
  have hc1 := hN1.hc
  unfold nodeRO at hc1
  have hcl1 := getElem?_lt hc1
  have hl1 : nd1.l.length ≤ 100000 := by rw [hnd1]; exact h1
  have hd1 : nd1.drp.length ≤ 100000 := by rw [hnd1]; exact h2
  have hcap1 : (nd1.l.length : Int) ≤ cc := by rw [hnd1]; exact hcap
  obtain ⟨nd2, hnd2⟩ : ∃ nd2 : Nd, nd2 = if 0 < cc ∧ (nd1.l.length : Int) = cc then { nd1 with l := (roomF pp nd1.l nd1.drp).1, drp := (roomF pp nd1.l nd1.drp).2 } else nd1 := ⟨_, rfl⟩
  obtain ⟨inv, hinv⟩ : ∃ inv : Nr × Hp → Prop, inv = fun s2 => NodeR c0 (addS S (G.length + 1) (.row 56 5 [encPk y] true)) cc pp nd2 s2.1 s2.2 ∧ ¬ ((0 < cc ∧ (nd1.l.length : Int) = cc) ∧ pp = 2) := ⟨_, rfl⟩
  have hlen : ∀ {s' : Nr} {G' : Hp} {nd' : Nd}, NodeR c0 (addS S (G.length + 1) (.row 56 5 [encPk y] true)) cc pp nd' s' G' → G.length + 2 ≤ G'.length := fun h => getElem?_lt (h.pre (G.length + 1) _ (by unfold addS; rw [if_pos rfl])).1
  refine SWp.cut (G.length + 2) [0, 6] [] (fun (s2 : Nr × Hp) => inv s2) (fun (s2 : Nr × Hp) => []) (fun (s2 : Nr × Hp) => s2.2) (fun _ => rfl) (by kernel_rfl) (by first | (simp; done) | omega) (by first | (simp; done) | (simp; omega) | omega) (by (try simp only [List.forall_mem_cons, List.not_mem_nil, false_implies, implies_true, and_true]); (try simp (disch := first | omega | (simp only [go_sem]; first | done | omega)) only [go_sem]); all_goals first | trivial | (simp [AV.ok, AV.ok1, AC.ok]; done) | (simp [AV.ok, AV.ok1, AC.ok]; omega) | (simp [AV.ok, AV.ok1, AC.ok]; assumption) | ((repeat' apply And.intro) <;> first | trivial | (simp [AV.ok, AV.ok1, AC.ok]; done) | (simp [AV.ok, AV.ok1, AC.ok]; omega) | (simp [AV.ok, AV.ok1, AC.ok]; assumption) | (refine grV_ok ?_ _; first | (simp; done) | (simp; omega) | omega))) ?_ (fun s2 hs2 _ _ => ?_)
  · refine SWp.of (by kernel_rfl) ?_
    by_cases hfull : 0 < cc ∧ (nd1.l.length : Int) = cc
    · rw [if_pos hfull] at hnd2
      have hl0 : 0 < nd1.l.length := by omega
      have hge : cc ≤ (nd1.l.length : Int) := by omega
      rcases hpp with rfl | rfl | rfl
      · simp (disch := first | omega | (simp only [go_sem]; first | done | omega)) only [go_sem, hc1, hcl1]
        repeat' (first | ((first | refine acond_d ?_ ?_ | refine acond_b ?_ ?_ | refine ag_d ?_ ?_ | refine ag_n ?_ ?_ | refine ag_bt ?_ ?_ | refine ag_bf ?_ ?_ | refine agt_d ?_ ?_ | refine agt_n ?_ ?_ | refine agt_bt ?_ ?_ | refine agt_bf ?_ ?_) <;> intro c <;> try simp (disch := first | omega | (simp only [go_sem]; first | done | omega)) only [go_sem, c, hc1, hcl1, hge]) | ((first | refine w_draw (by kernel_rfl) (by decide +kernel) ?_ | refine rdrop_a hN1 0 hl0 (by omega) (by omega) (fun G' s' hb' hN' => ?_) | refine w_tree (.one 0 (.one 1 (.one 2 (.one 3 (.one 4 (.one 5 (.one 6 (.one 7 (.one 8 (.one 9 .done)))))))))) (by kernel_rfl) (by decide +kernel) ?_) <;> try simp (disch := first | omega | (simp only [go_sem]; first | done | omega)) only [go_sem, hc1, hcl1, hge]) | (refine And.intro ?_ ?_ <;> try simp (disch := first | omega | (simp only [go_sem]; first | done | omega)) only [go_sem, hc1, hcl1, hge]))
        all_goals
          have hl' := hlen hN'
          refine Next.mk (s', G') ?_ ?_
          · rw [hinv, hnd2]
            refine ⟨?_, by omega⟩
            have e := take1_n nd1.l hl0
            unfold roomF
            rw [if_pos rfl]
            dsimp only
            rw [e]
            exact hN'
          · (try simp (disch := first | omega | (simp only [go_sem]; first | done | omega)) only [go_sem]); (first | refine WkL.eq ?_ ?_ | refine WkL.rest (by assumption) ?_ ?_ ?_ | refine WkL.keepL (by assumption) rfl ?_ ?_ ?_ ?_) <;> first | rfl | (simp; done) | (simp; omega) | (simp only [List.cons.injEq, AV.c.injEq, AC.int.injEq, AC.bool.injEq, AC.str.injEq, and_true, true_and, Int.natCast_add, Int.natCast_one, Int.cast_ofNat_Int]; omega) | (simp [AV.ok, AV.ok1, AC.ok]; done) | (simp [AV.ok, AV.ok1, AC.ok]; omega) | (simp only [List.forall_mem_cons, List.not_mem_nil, false_implies, implies_true, and_true]; (repeat' apply And.intro) <;> first | exact okN_map (fun x => by simp [go_sem, AC.pure]) | exact okN_grO (fun x => by simp [go_sem, AC.pure]) | (simp [AObj.okN, AC.ok]; done) | (simp [AObj.okN, AC.ok]; omega)) | (simp [*]; done) | grind
      · obtain ⟨dr, hdr⟩ : ∃ dr, dr = nd1.drp ++ [y.n] := ⟨_, rfl⟩
        have e : putF cc 2 x nd = { nd1 with drp := dr } := by
          rw [hdr, hy]
          unfold putF
          rw [hnd1] at hfull ⊢
          rw [if_pos hfull, if_pos rfl]
        rw [e] at hk
        have hd := hN1.hd
        have hdl := getElem?_lt hd
        have d1 : s.d ≠ c0 := by
          have ne := hN1.ne
          simp only [List.nodup_cons, List.mem_cons, List.not_mem_nil, or_false, not_or, List.nodup_nil, and_true, not_false_eq_true] at ne
          omega
        simp (disch := first | omega | (simp only [go_sem]; first | done | omega)) only [go_sem, hc1, hcl1]
        repeat' (first | ((first | refine acond_d ?_ ?_ | refine acond_b ?_ ?_ | refine ag_d ?_ ?_ | refine ag_n ?_ ?_ | refine ag_bt ?_ ?_ | refine ag_bf ?_ ?_ | refine agt_d ?_ ?_ | refine agt_n ?_ ?_ | refine agt_bt ?_ ?_ | refine agt_bf ?_ ?_) <;> intro c <;> try simp (disch := first | omega | (simp only [go_sem]; first | done | omega)) only [go_sem, c, hc1, hcl1, hd, hdl, hpr, hge]) | ((first | refine w_draw (by kernel_rfl) (by decide +kernel) ?_ | refine appI nd1.drp y.n dr hdr (get_old hd _) (at0 rfl) (by omega) ?_ | refine w_tree (.one 0 (.one 1 (.one 2 (.one 3 (.one 4 (.one 5 (.one 6 (.one 7 (.one 8 (.one 9 .done)))))))))) (by kernel_rfl) (by decide +kernel) ?_ | refine w_tree (.one 0 (.one 1 (.one 2 (.one 3 (.one 4 (.one 5 (.one 6 (.one 7 (.one 8 (.one 9 (.one 10 (.one 11 .done)))))))))))) (by kernel_rfl) (by decide +kernel) ?_) <;> try simp (disch := first | omega | (simp only [go_sem]; first | done | omega)) only [go_sem, hc1, hcl1, hd, hdl, hpr, hge]) | (refine And.intro ?_ ?_ <;> try simp (disch := first | omega | (simp only [go_sem]; first | done | omega)) only [go_sem, hc1, hcl1, hd, hdl, hpr, hge]))
        all_goals
          refine Ret.same (by simp; omega) (hk _ { s with d := G1.length + 1 } (NodeR.out (i := G.length + 1) (o := .row 56 5 [encPk y] true) ⟨?_, ?_, ?_, ?_, ?_, ?_, ?_, ?_⟩ hNs))
          all_goals
            obtain ⟨pre, hc, hl, ho, hd, hr, hw, ne⟩ := hN1
            simp only [List.nodup_cons, List.mem_cons, List.not_mem_nil, or_false, not_or, List.nodup_nil, and_true, not_false_eq_true] at ne
            have hll := getElem?_lt hl
            have hol := getElem?_lt ho
            have hrl := getElem?_lt hr
            have hwl := getElem?_lt hw
            (first | (simp only [List.nodup_cons, List.mem_cons, List.not_mem_nil, or_false, not_or, List.nodup_nil, and_true, not_false_eq_true]; (try dsimp only); (repeat' apply And.intro) <;> omega) | (intro q o hq; obtain ⟨g1, g2⟩ := pre q o hq; have g3 := getElem?_lt g1; simp only [List.mem_cons, List.not_mem_nil, or_false, not_or] at g2 ⊢; refine ⟨?_, by (try dsimp only); omega⟩; (try rw [List.getElem?_append_left (by (try simp only [List.length_set]); omega)]); (repeat rw [List.getElem?_set_ne (by omega)]); exact g1) | ((try dsimp only); (try rw [List.getElem?_append_left (by (try simp only [List.length_set]); omega)]); (repeat rw [List.getElem?_set_ne (by omega)]); first | assumption | (rw [List.getElem?_set_self (by (try simp only [List.length_set]); omega)]; done) | (rw [List.getElem?_set_self (by (try simp only [List.length_set]); omega)]; rfl) | (rw [List.getElem?_set_self (by (try simp only [List.length_set]); omega)]; simp [nodeO, hdV, hdO, *]; done)) | ((try dsimp only); rw [List.getElem?_append_right (by (try simp only [List.length_set]); omega)]; (try simp only [List.length_set, Nat.add_sub_cancel_left, Nat.sub_self]); rfl))
      · obtain ⟨inv3, hinv3⟩ : ∃ inv3 : Nr × Hp × Nat × List Hd × List Int → Prop, inv3 = fun s3 => NodeR c0 (addS S (G.length + 1) (.row 56 5 [encPk y] true)) cc 3 { nd1 with l := s3.2.2.2.1, drp := s3.2.2.2.2 } s3.1 s3.2.1 ∧ s3.2.2.2.1.length ≤ 100000 ∧ s3.2.2.2.1.length + s3.2.2.2.2.length ≤ 200000 ∧ ∃ f, s3.2.2.2.1.length ≤ s3.2.2.1 + f ∧ thinG f s3.2.2.1 s3.2.2.2.1 s3.2.2.2.2 = thinG nd1.l.length 1 nd1.l nd1.drp := ⟨_, rfl⟩
        simp (disch := first | omega | (simp only [go_sem]; first | done | omega)) only [go_sem, hc1, hcl1]
        repeat' (first | ((first | refine acond_d ?_ ?_ | refine acond_b ?_ ?_ | refine ag_d ?_ ?_ | refine ag_n ?_ ?_ | refine ag_bt ?_ ?_ | refine ag_bf ?_ ?_ | refine agt_d ?_ ?_ | refine agt_n ?_ ?_ | refine agt_bt ?_ ?_ | refine agt_bf ?_ ?_) <;> intro c <;> try simp (disch := first | omega | (simp only [go_sem]; first | done | omega)) only [go_sem, c, hc1, hcl1, hge]) | ((first | refine w_draw (by kernel_rfl) (by decide +kernel) ?_ | refine w_tree (.one 0 (.one 1 (.one 2 (.one 3 (.one 4 (.one 5 (.one 6 (.one 7 (.one 8 (.one 9 .done)))))))))) (by kernel_rfl) (by decide +kernel) ?_) <;> try simp (disch := first | omega | (simp only [go_sem]; first | done | omega)) only [go_sem, hc1, hcl1, hge]) | (refine And.intro ?_ ?_ <;> try simp (disch := first | omega | (simp only [go_sem]; first | done | omega)) only [go_sem, hc1, hcl1, hge]))
        refine AWp.loop (G.length + 2) [0, 6] [7] (fun (s3 : Nr × Hp × Nat × List Hd × List Int) => inv3 s3) (fun (s3 : Nr × Hp × Nat × List Hd × List Int) => [(7, (.c (.int .i64 (s3.2.2.1))))]) (fun (s3 : Nr × Hp × Nat × List Hd × List Int) => s3.2.1) (fun (s3 : Nr × Hp × Nat × List Hd × List Int) => s3.2.2.2.1.length - s3.2.2.1) (by kernel_rfl) (fun _ => rfl) (by kernel_rfl) (by first | (simp; done) | omega) (by first | (simp; done) | (simp; omega) | omega) (by (try simp only [List.forall_mem_cons, List.not_mem_nil, false_implies, implies_true, and_true]); (try simp (disch := first | omega | (simp only [go_sem]; first | done | omega)) only [go_sem]); all_goals first | trivial | (simp [AV.ok, AV.ok1, AC.ok]; done) | (simp [AV.ok, AV.ok1, AC.ok]; omega) | (simp [AV.ok, AV.ok1, AC.ok]; assumption) | ((repeat' apply And.intro) <;> first | trivial | (simp [AV.ok, AV.ok1, AC.ok]; done) | (simp [AV.ok, AV.ok1, AC.ok]; omega) | (simp [AV.ok, AV.ok1, AC.ok]; assumption) | (refine grV_ok ?_ _; first | (simp; done) | (simp; omega) | omega))) ?_ (fun s3 hs3 hm3 _ => ?_)
        · refine Next.mk (s, G1, 1, nd1.l, nd1.drp) (by rw [hinv3]; exact ⟨hN1, hl1, by dsimp only; omega, nd1.l.length, by dsimp only; omega, rfl⟩) ?_
          (try simp (disch := first | omega | (simp only [go_sem]; first | done | omega)) only [go_sem]); (first | refine WkL.eq ?_ ?_ | refine WkL.rest (by assumption) ?_ ?_ ?_ | refine WkL.keepL (by assumption) rfl ?_ ?_ ?_ ?_) <;> first | rfl | (simp; done) | (simp; omega) | (simp only [List.cons.injEq, AV.c.injEq, AC.int.injEq, AC.bool.injEq, AC.str.injEq, and_true, true_and, Int.natCast_add, Int.natCast_one, Int.cast_ofNat_Int]; omega) | (simp [AV.ok, AV.ok1, AC.ok]; done) | (simp [AV.ok, AV.ok1, AC.ok]; omega) | (simp only [List.forall_mem_cons, List.not_mem_nil, false_implies, implies_true, and_true]; (repeat' apply And.intro) <;> first | exact okN_map (fun x => by simp [go_sem, AC.pure]) | exact okN_grO (fun x => by simp [go_sem, AC.pure]) | (simp [AObj.okN, AC.ok]; done) | (simp [AObj.okN, AC.ok]; omega)) | (simp [*]; done) | grind
        obtain ⟨s', G', i, l, d⟩ := s3
        rw [hinv3] at hs3
        obtain ⟨hN', q1, q2, f, q3, q4⟩ := hs3
        dsimp only at hN' q1 q2 q3 q4 hm3 ⊢
        have hc3 := hN'.hc
        unfold nodeRO at hc3
        dsimp only at hc3
        have hcl3 := getElem?_lt hc3
        by_cases hil : i < l.length
        · simp (disch := first | omega | (simp only [go_sem]; first | done | omega)) only [go_sem, hc3, hcl3]
          refine rdrop_a hN' i hil (by dsimp only; omega) (by dsimp only; omega) (fun G2 s2 _ hN2 => ?_)
          have hl' := hlen hN2
          simp (disch := first | omega | (simp only [go_sem]; first | done | omega)) only [go_sem]
          refine Next.mk (s2, G2, i + 1, l.eraseIdx i, d ++ [l[i].p.n]) ?_ ?_
          · rw [hinv3]
            have hle := List.length_eraseIdx_of_lt hil
            dsimp only
            rw [hle]
            obtain ⟨g, rfl⟩ : ∃ g, f = g + 1 := ⟨f - 1, by omega⟩
            refine ⟨⟨hN2, by omega, by rw [List.length_append, List.length_singleton]; omega, g, by omega, ?_⟩, by omega⟩
            rw [← q4, thinG, dif_pos hil]
          · (try simp (disch := first | omega | (simp only [go_sem]; first | done | omega)) only [go_sem]); (first | refine WkL.eq ?_ ?_ | refine WkL.rest (by assumption) ?_ ?_ ?_ | refine WkL.keepL (by assumption) rfl ?_ ?_ ?_ ?_) <;> first | rfl | (simp; done) | (simp; omega) | (simp only [List.cons.injEq, AV.c.injEq, AC.int.injEq, AC.bool.injEq, AC.str.injEq, and_true, true_and, Int.natCast_add, Int.natCast_one, Int.cast_ofNat_Int]; omega) | (simp [AV.ok, AV.ok1, AC.ok]; done) | (simp [AV.ok, AV.ok1, AC.ok]; omega) | (simp only [List.forall_mem_cons, List.not_mem_nil, false_implies, implies_true, and_true]; (repeat' apply And.intro) <;> first | exact okN_map (fun x => by simp [go_sem, AC.pure]) | exact okN_grO (fun x => by simp [go_sem, AC.pure]) | (simp [AObj.okN, AC.ok]; done) | (simp [AObj.okN, AC.ok]; omega)) | (simp [*]; done) | grind
        · simp (disch := first | omega | (simp only [go_sem]; first | done | omega)) only [go_sem, hc3, hcl3]
          refine Next.mk (s', G') ?_ ?_
          · rw [hinv, hnd2]
            refine ⟨?_, by omega⟩
            have e : roomF 3 nd1.l nd1.drp = (l, d) := by
              unfold roomF
              rw [if_neg (by decide), if_pos rfl, ← q4]
              cases f with
              | zero => rfl
              | succ g => rw [thinG, dif_neg hil]
            rw [e]
            exact hN'
          · (try simp (disch := first | omega | (simp only [go_sem]; first | done | omega)) only [go_sem]); (first | refine WkL.eq ?_ ?_ | refine WkL.rest (by assumption) ?_ ?_ ?_ | refine WkL.keepL (by assumption) rfl ?_ ?_ ?_ ?_) <;> first | rfl | (simp; done) | (simp; omega) | (simp only [List.cons.injEq, AV.c.injEq, AC.int.injEq, AC.bool.injEq, AC.str.injEq, and_true, true_and, Int.natCast_add, Int.natCast_one, Int.cast_ofNat_Int]; omega) | (simp [AV.ok, AV.ok1, AC.ok]; done) | (simp [AV.ok, AV.ok1, AC.ok]; omega) | (simp only [List.forall_mem_cons, List.not_mem_nil, false_implies, implies_true, and_true]; (repeat' apply And.intro) <;> first | exact okN_map (fun x => by simp [go_sem, AC.pure]) | exact okN_grO (fun x => by simp [go_sem, AC.pure]) | (simp [AObj.okN, AC.ok]; done) | (simp [AObj.okN, AC.ok]; omega)) | (simp [*]; done) | grind
    · rw [if_neg hfull] at hnd2
      have hlt : ¬ cc ≤ (nd1.l.length : Int) := by omega
      simp (disch := first | omega | (simp only [go_sem]; first | done | omega)) only [go_sem, hc1, hcl1]
      repeat' (first | ((first | refine acond_d ?_ ?_ | refine acond_b ?_ ?_ | refine ag_d ?_ ?_ | refine ag_n ?_ ?_ | refine ag_bt ?_ ?_ | refine ag_bf ?_ ?_ | refine agt_d ?_ ?_ | refine agt_n ?_ ?_ | refine agt_bt ?_ ?_ | refine agt_bf ?_ ?_) <;> intro c <;> try simp (disch := first | omega | (simp only [go_sem]; first | done | omega)) only [go_sem, c, hc1, hcl1, hlt]) | ((first | refine w_draw (by kernel_rfl) (by decide +kernel) ?_ | refine w_tree (.one 0 (.one 1 (.one 2 (.one 3 (.one 4 (.one 5 (.one 6 (.one 7 (.one 8 (.one 9 .done)))))))))) (by kernel_rfl) (by decide +kernel) ?_) <;> try simp (disch := first | omega | (simp only [go_sem]; first | done | omega)) only [go_sem, hc1, hcl1, hlt]) | (refine And.intro ?_ ?_ <;> try simp (disch := first | omega | (simp only [go_sem]; first | done | omega)) only [go_sem, hc1, hcl1, hlt]))
      all_goals
        refine Next.mk (s, G1) (by rw [hinv, hnd2]; exact ⟨hN1, fun h => hfull h.1⟩) ?_
        (try simp (disch := first | omega | (simp only [go_sem]; first | done | omega)) only [go_sem]); (first | refine WkL.eq ?_ ?_ | refine WkL.rest (by assumption) ?_ ?_ ?_ | refine WkL.keepL (by assumption) rfl ?_ ?_ ?_ ?_) <;> first | rfl | (simp; done) | (simp; omega) | (simp only [List.cons.injEq, AV.c.injEq, AC.int.injEq, AC.bool.injEq, AC.str.injEq, and_true, true_and, Int.natCast_add, Int.natCast_one, Int.cast_ofNat_Int]; omega) | (simp [AV.ok, AV.ok1, AC.ok]; done) | (simp [AV.ok, AV.ok1, AC.ok]; omega) | (simp only [List.forall_mem_cons, List.not_mem_nil, false_implies, implies_true, and_true]; (repeat' apply And.intro) <;> first | exact okN_map (fun x => by simp [go_sem, AC.pure]) | exact okN_grO (fun x => by simp [go_sem, AC.pure]) | (simp [AObj.okN, AC.ok]; done) | (simp [AObj.okN, AC.ok]; omega)) | (simp [*]; done) | grind
  rw [hinv] at hs2
  obtain ⟨s2, G2⟩ := s2
  obtain ⟨hN2, hnot⟩ := hs2
  dsimp only at hN2 ⊢
  have hp2 := (hN2.pre (G.length + 1) _ (by unfold addS; rw [if_pos rfl])).1
  have hpl2 := getElem?_lt hp2
  have hl2 : nd2.l.length ≤ 100000 := by
    have := room_len pp nd1.l nd1.drp
    rw [hnd2]
    split
    · dsimp only; omega
    · exact hl1
  have hc2 := hN2.hc
  have hcl2 := getElem?_lt hc2
  unfold nodeRO at hc2
  have hl := hN2.hl
  have hll := getElem?_lt hl
  have d1 : s2.l ≠ c0 := by
    have ne := hN2.ne
    simp only [List.nodup_cons, List.mem_cons, List.not_mem_nil, or_false, not_or, List.nodup_nil, and_true, not_false_eq_true] at ne
    omega
  obtain ⟨l2, hl2'⟩ : ∃ l2, l2 = nd2.l ++ [(⟨y, false⟩ : Hd)] := ⟨_, rfl⟩
  have hlc : (l2.length : Int) = (nd2.l.length : Int) + 1 := by rw [hl2', List.length_append, List.length_singleton]; omega
  have e : putF cc pp x nd = { nd2 with l := l2, most := max nd2.most (l2.length : Int) } := by
    rw [hlc, hl2', hy]
    unfold putF
    by_cases hf : 0 < cc ∧ (nd1.l.length : Int) = cc
    · rw [if_pos hf] at hnd2
      have hpp : ¬ pp = 2 := fun h => hnot ⟨hf, h⟩
      rw [hnd2]
      rw [hnd1] at hf ⊢
      rw [if_pos hf, if_neg hpp]
    · rw [if_neg hf] at hnd2
      rw [hnd2]
      rw [hnd1] at hf ⊢
      rw [if_neg hf]
  rw [e] at hk
  clear hnd2 hinv hnot hN1 hpr hc1 hcap1
  refine SWp.go (by kernel_rfl) ?_
  repeat' (first | ((first | refine acond_d ?_ ?_ | refine acond_b ?_ ?_ | refine ag_d ?_ ?_ | refine ag_n ?_ ?_ | refine ag_bt ?_ ?_ | refine ag_bf ?_ ?_ | refine agt_d ?_ ?_ | refine agt_n ?_ ?_ | refine agt_bt ?_ ?_ | refine agt_bf ?_ ?_) <;> intro c <;> try simp (disch := first | omega | (simp only [go_sem]; first | done | omega)) only [go_sem, c, hc2, hcl2, hl, hll, hp2]) | ((first | refine w_draw (by kernel_rfl) (by decide +kernel) ?_ | refine appKp nd2.l ⟨y, false⟩ l2 hl2' (get_old hl _) (at0 rfl) (by omega) ?_ | refine w_tree (.one 0 (.one 1 (.one 2 (.one 3 (.one 4 (.one 5 (.one 6 (.one 7 (.one 8 (.one 9 (.one 10 (.one 11 .done)))))))))))) (by kernel_rfl) (by decide +kernel) ?_) <;> try simp (disch := first | omega | (simp only [go_sem]; first | done | omega)) only [go_sem, hc2, hcl2, hl, hll, hp2]) | (refine And.intro ?_ ?_ <;> try simp (disch := first | omega | (simp only [go_sem]; first | done | omega)) only [go_sem, hc2, hcl2, hl, hll, hp2]))
  all_goals
    refine SWp.of (by kernel_rfl) ?_
    repeat' (first | ((first | refine acond_d ?_ ?_ | refine acond_b ?_ ?_ | refine ag_d ?_ ?_ | refine ag_n ?_ ?_ | refine ag_bt ?_ ?_ | refine ag_bf ?_ ?_ | refine agt_d ?_ ?_ | refine agt_n ?_ ?_ | refine agt_bt ?_ ?_ | refine agt_bf ?_ ?_) <;> intro c <;> try simp (disch := first | omega | (simp only [go_sem]; first | done | omega)) only [go_sem, c, hcl2]) | ((first | refine w_draw (by kernel_rfl) (by decide +kernel) ?_ | refine w_tree (.one 0 (.one 1 (.one 2 (.one 3 (.one 4 (.one 5 (.one 6 (.one 7 (.one 8 (.one 9 (.one 10 (.one 11 (.one 12 (.one 13 .done)))))))))))))) (by kernel_rfl) (by decide +kernel) ?_) <;> try simp (disch := first | omega | (simp only [go_sem]; first | done | omega)) only [go_sem, hcl2]) | (refine And.intro ?_ ?_ <;> try simp (disch := first | omega | (simp only [go_sem]; first | done | omega)) only [go_sem, hcl2]))
  all_goals
    refine Ret.same (by simp; omega) (hk _ { s2 with b := true, l := G2.length + 1 } (NodeR.out (i := G.length + 1) (o := .row 56 5 [encPk y] true) ⟨?_, ?_, ?_, ?_, ?_, ?_, ?_, ?_⟩ hNs))
    all_goals
      obtain ⟨pre, hc, hl, ho, hd, hr, hw, ne⟩ := hN2
      simp only [List.nodup_cons, List.mem_cons, List.not_mem_nil, or_false, not_or, List.nodup_nil, and_true, not_false_eq_true] at ne
      have hol := getElem?_lt ho
      have hdl := getElem?_lt hd
      have hrl := getElem?_lt hr
      have hwl := getElem?_lt hw
      (first | (simp only [List.nodup_cons, List.mem_cons, List.not_mem_nil, or_false, not_or, List.nodup_nil, and_true, not_false_eq_true]; (try dsimp only); (repeat' apply And.intro) <;> omega) | (intro q o hq; obtain ⟨g1, g2⟩ := pre q o hq; have g3 := getElem?_lt g1; simp only [List.mem_cons, List.not_mem_nil, or_false, not_or] at g2 ⊢; refine ⟨?_, by (try dsimp only); omega⟩; (try rw [List.getElem?_append_left (by (try simp only [List.length_set]); omega)]); (repeat rw [List.getElem?_set_ne (by omega)]); exact g1) | ((try dsimp only); (try rw [List.getElem?_append_left (by (try simp only [List.length_set]); omega)]); (repeat rw [List.getElem?_set_ne (by omega)]); first | assumption | (rw [List.getElem?_set_self (by (try simp only [List.length_set]); omega)]; done) | (rw [List.getElem?_set_self (by (try simp only [List.length_set]); omega)]; rfl) | (rw [List.getElem?_set_self (by (try simp only [List.length_set]); omega)]; simp [nodeO, hdV, hdO, *]; done)) | ((try dsimp only); rw [List.getElem?_append_right (by (try simp only [List.length_set]); omega)]; (try simp only [List.length_set, Nat.add_sub_cancel_left, Nat.sub_self]); rfl))
end Go.Proofs.YtnpdbnkgipkgaaaGreat
