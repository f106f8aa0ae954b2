/- The document's answer: a buffer's node in memory; a packet dropped. No condition. -/
import Derived.Test.YtnpdbnkgipkgaaaGreatHVKeptA
namespace Go.Proofs.YtnpdbnkgipkgaaaGreat
open Go Go.RowKit
set_option maxRecDepth 100000
set_option linter.all false
set_option maxHeartbeats 2000000
variable {H : Hp} {K : AV → Hp → Prop}
structure Nr where
  b : Bool
  l : Nat
  o : Nat
  d : Nat
  r : Nat
  w : Nat
def nodeRO (c p : Int) (nd : Nd) (s : Nr) : AObj := .row 118 10 [[.int .i64 c, .int .i64 p, hdV s.b s.l nd.l, .int .i64 nd.last, .int .i64 nd.acked, grV s.o nd.out, grV s.d nd.drp, grV s.r nd.ref, grV s.w nd.why, .int .i64 nd.most]] true
/-- a node in memory, and what lies beside it and stays -/
structure NodeR (c0 : Nat) (S : Nat → Option AObj) (c p : Int) (nd : Nd) (s : Nr) (G : Hp) : Prop where
  pre : ∀ q o, S q = some o → G[q]? = some o ∧ q ∉ [c0, s.l, s.o, s.d, s.r, s.w]
  hc : G[c0]? = some (nodeRO c p nd s)
  hl : G[s.l]? = some (kdO s.b nd.l)
  ho : G[s.o]? = some (grO 56 5 (nd.out.map encPk))
  hd : G[s.d]? = some (grO 3 1 (nd.drp.map encI))
  hr : G[s.r]? = some (grO 3 1 (nd.ref.map encI))
  hw : G[s.w]? = some (grO 33 1 (nd.why.map encI))
  ne : [c0, s.l, s.o, s.d, s.r, s.w].Nodup
theorem NodeR.app {c0 : Nat} {S : Nat → Option AObj} {c p : Int} {nd : Nd} {s : Nr} {G : Hp} (h : NodeR c0 S c p nd s G) (L : Hp) : NodeR c0 S c p nd s (G ++ L) := by
  obtain ⟨pre, hc, hl, ho, hd, hr, hw, ne⟩ := h
  exact ⟨fun q o hq => ⟨get_old (pre q o hq).1 _, (pre q o hq).2⟩, get_old hc _, get_old hl _, get_old ho _, get_old hd _, get_old hr _, get_old hw _, ne⟩
theorem NodeR.out {c0 i : Nat} {S : Nat → Option AObj} {o : AObj} {c p : Int} {nd : Nd} {s : Nr} {G : Hp} (h : NodeR c0 (addS S i o) c p nd s G) (hi : ∀ o, S i ≠ some o) : NodeR c0 S c p nd s G := by
  obtain ⟨pre, hc, hl, ho, hd, hr, hw, ne⟩ := h
  refine ⟨fun q o hq => pre q o ?_, hc, hl, ho, hd, hr, hw, ne⟩
  unfold addS
  rw [if_neg]
  · exact hq
  · rintro rfl
    exact hi _ hq
theorem rdrop_a {G : Hp} {c0 : Nat} {S : Nat → Option AObj} {c p : Int} {nd : Nd} {s : Nr} (hN : NodeR c0 S c p nd s G) (k : Nat) (hk0 : k < nd.l.length) (h1 : nd.l.length ≤ 1000000) (h2 : nd.drp.length ≤ 1000000)
    (hk : ∀ G' s', s'.b = true → NodeR c0 S c p { nd with l := nd.l.eraseIdx k, drp := nd.drp ++ [nd.l[k].p.n] } s' G' → K (.tup []) G') : ACalls Tryz.prog 181 [.c (.ptr (some (c0, 0, 0))), (.c (.int .i64 k))] G K := by
  have hne : nd.l ≠ [] := by intro h; rw [h] at hk0; simp at hk0
  have hc' := hN.hc
  have hcl := getElem?_lt hc'
  unfold nodeRO at hc'
  rw [hdV_pos _ _ hne] at hc'
  have hl := hN.hl
  rw [kdO_pos _ hne] at hl
  have hll := getElem?_lt hl
  have hd := hN.hd
  have hdl := getElem?_lt hd
  obtain ⟨d1, d2, d3⟩ : s.d ≠ c0 ∧ s.l ≠ c0 ∧ s.d ≠ s.l := by
    have ne := hN.ne
    simp only [List.nodup_cons, List.mem_cons, List.not_mem_nil, or_false, not_or, List.nodup_nil, and_true, not_false_eq_true] at ne
    omega
  refine acallsS Tryz.func181 rfl (by simp (disch := first | omega | (simp only [go_sem]; first | done | omega)) only [go_sem]) (fun hH => ?_)
  obtain ⟨dr, hdr⟩ : ∃ dr, dr = nd.drp ++ [nd.l[k].p.n] := ⟨_, rfl⟩
  refine SWp.go (by kernel_rfl) ?_
  repeat' (first | ((first | refine acond_d ?_ ?_ | refine acond_b ?_ ?_ | refine ag_d ?_ ?_ | refine ag_n ?_ ?_ | refine ag_bt ?_ ?_ | refine ag_bf ?_ ?_ | refine agt_d ?_ ?_ | refine agt_n ?_ ?_ | refine agt_bt ?_ ?_ | refine agt_bf ?_ ?_) <;> intro c <;> try simp (disch := first | omega | (simp only [go_sem]; first | done | omega)) only [go_sem, c, hc', hd, hl, hcl, hdl, hll]) | ((first | refine w_draw (by kernel_rfl) (by decide +kernel) ?_ | refine appI nd.drp nd.l[k].p.n dr hdr (get_old hd _) (at0 rfl) (by omega) ?_ | refine w_tree (.one 0 (.one 1 (.one 2 (.one 3 (.one 4 (.one 5 (.one 6 (.one 7 (.one 8 (.one 9 (.one 10 (.one 11 (.one 12 (.one 13 (.one 14 (.one 15 (.one 16 (.one 17 (.one 18 .done))))))))))))))))))) (by kernel_rfl) (by decide +kernel) ?_) <;> try simp (disch := first | omega | (simp only [go_sem]; first | done | omega)) only [go_sem, hc', hd, hl, hcl, hdl, hll]) | (refine And.intro ?_ ?_ <;> try simp (disch := first | omega | (simp only [go_sem]; first | done | omega)) only [go_sem, hc', hd, hl, hcl, hdl, hll]))
  all_goals
    refine SWp.of (by kernel_rfl) ?_
    simp (disch := first | omega | (simp only [go_sem]; first | done | omega)) only [go_sem, hcl, hll]
    repeat' (first | ((first | refine acond_d ?_ ?_ | refine acond_b ?_ ?_ | refine ag_d ?_ ?_ | refine ag_n ?_ ?_ | refine ag_bt ?_ ?_ | refine ag_bf ?_ ?_) <;> intro c <;> try simp (disch := first | omega | (simp only [go_sem]; first | done | omega)) only [go_sem, c, hcl, hll]) | ((first | refine w_draw (by kernel_rfl) (by decide +kernel) ?_ | refine kclP_a nd.l (get_s2 hl (by omega) (by omega)) rfl hne (by omega) ?_ | refine deleteKp_a nd.l k hk0 (by first | exact at0 (by simp) | exact at1 (by simp) | exact at2 (by simp) | exact at3 (by simp) | exact at4 (by simp) | exact at5 (by simp) | exact atG 6 (by simp) rfl | exact atG 7 (by simp) rfl | exact atG 8 (by simp) rfl | exact atG 9 (by simp) rfl | exact atG 10 (by simp) rfl | exact atG 11 (by simp) rfl | exact atG 12 (by simp) rfl | exact atG 13 (by simp) rfl | exact atG 14 (by simp) rfl | exact atG 15 (by simp) rfl | assumption) rfl (by omega) ?_) <;> try simp (disch := first | omega | (simp only [go_sem]; first | done | omega)) only [go_sem, hcl, hll]))
  all_goals
    rw [hdr]
    refine Ret.same (by simp) (hk _ { s with b := true, l := G.length + 2, d := G.length + 1 } rfl ⟨?_, ?_, ?_, ?_, ?_, ?_, ?_, ?_⟩)
    all_goals
      obtain ⟨pre, hc, hl, ho, hd, hr, hw, ne⟩ := hN
      simp only [List.nodup_cons, List.mem_cons, List.not_mem_nil, or_false, not_or, List.nodup_nil, and_true, not_false_eq_true] at ne
      have hol := getElem?_lt ho
      have hrl := getElem?_lt hr
      have hwl := getElem?_lt hw
      (first | (simp only [List.nodup_cons, List.mem_cons, List.not_mem_nil, or_false, not_or, List.nodup_nil, and_true, not_false_eq_true]; (try dsimp only); (repeat' apply And.intro) <;> omega) | (intro q o hq; obtain ⟨g1, g2⟩ := pre q o hq; have g3 := getElem?_lt g1; simp only [List.mem_cons, List.not_mem_nil, or_false, not_or] at g2 ⊢; refine ⟨?_, by (try dsimp only); omega⟩; (try rw [List.getElem?_append_left (by (try simp only [List.length_set]); omega)]); (repeat rw [List.getElem?_set_ne (by omega)]); exact g1) | ((try dsimp only); (try rw [List.getElem?_append_left (by (try simp only [List.length_set]); omega)]); (repeat rw [List.getElem?_set_ne (by omega)]); first | assumption | (rw [List.getElem?_set_self (by (try simp only [List.length_set]); omega)]; done) | (rw [List.getElem?_set_self (by (try simp only [List.length_set]); omega)]; rfl) | (rw [List.getElem?_set_self (by (try simp only [List.length_set]); omega)]; simp [nodeO, hdV, hdO, *]; done)) | ((try dsimp only); rw [List.getElem?_append_right (by (try simp only [List.length_set]); omega)]; (try simp only [List.length_set, Nat.add_sub_cancel_left, Nat.sub_self]); rfl))
end Go.Proofs.YtnpdbnkgipkgaaaGreat
