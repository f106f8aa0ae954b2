/- A buffer's node in memory. No condition. -/
import Derived.Test.YtnpdbnkgipkgaaaGreatHVNodeA
namespace Go.Proofs.YtnpdbnkgipkgaaaGreat
open Go Go.RowKit
set_option maxRecDepth 100000
set_option linter.all false
set_option maxHeartbeats 2000000
variable {H : Hp} {K : AV → Hp → Prop}
/-- where a node's parts lie -/
structure Nm where
  b : Bool
  m : Nat
  l : Nat
  o : Nat
  d : Nat
  r : Nat
  w : Nat
def hdV (b : Bool) (j : Nat) (l : List Hd) : AC := if b = true then .sl (some (j, 0)) l.length else grV j l
def hdO (b : Bool) (l : List Hd) : AObj := if b = true then .row 109 6 (l.map encHd) true else grO 109 6 (l.map encHd)
def everO (l : List Int) : AObj := mpO (l.map fun n => (.c (.int .i64 n), .c (.bool true)))
def nodeO (c p : Int) (nd : Nd) (s : Nm) : AObj := .row 107 11 [[.int .i64 c, .int .i64 p, .int .i64 nd.last, hdV s.b s.l nd.l, .map (some s.m), .int .i64 nd.acked, grV s.o nd.out, grV s.d nd.drp, grV s.r nd.ref, grV s.w nd.why, .int .i64 nd.most]] true
/-- a node in memory, and what lies beside it and stays -/
structure NodeAt (c0 : Nat) (S : Nat → Option AObj) (c p : Int) (nd : Nd) (s : Nm) (G : Hp) : Prop where
  pre : ∀ q o, S q = some o → G[q]? = some o ∧ q ∉ [c0, s.m, s.l, s.o, s.d, s.r, s.w]
  hc : G[c0]? = some (nodeO c p nd s)
  hm : G[s.m]? = some (everO nd.ever)
  hl : G[s.l]? = some (hdO s.b nd.l)
  ho : G[s.o]? = some (grO 56 5 (nd.out.map encPk))
  hd : G[s.d]? = some (grO 3 1 (nd.drp.map encI))
  hr : G[s.r]? = some (grO 3 1 (nd.ref.map encI))
  hw : G[s.w]? = some (grO 33 1 (nd.why.map encI))
  ne : [c0, s.m, s.l, s.o, s.d, s.r, s.w].Nodup
def addS (S : Nat → Option AObj) (i : Nat) (o : AObj) (q : Nat) : Option AObj := if q = i then some o else S q
theorem NodeAt.out {c0 i : Nat} {S : Nat → Option AObj} {o : AObj} {c p : Int} {nd : Nd} {s : Nm} {G : Hp} (h : NodeAt c0 (addS S i o) c p nd s G) (hi : ∀ o, S i ≠ some o) : NodeAt c0 S c p nd s G := by
  obtain ⟨pre, hc, hm, hl, ho, hd, hr, hw, ne⟩ := h
  refine ⟨fun q o hq => pre q o ?_, hc, hm, hl, ho, hd, hr, hw, ne⟩
  unfold addS
  rw [if_neg]
  · exact hq
  · rintro rfl
    exact hi _ hq
theorem hdV_pos (b : Bool) (j : Nat) {l : List Hd} (h : l ≠ []) : hdV b j l = .sl (some (j, 0)) l.length := by
  unfold hdV
  cases b
  · rw [if_neg (by decide), grV_pos _ h]
  · rfl
theorem hdO_pos (b : Bool) {l : List Hd} (h : l ≠ []) : hdO b l = .row 109 6 (l.map encHd) true := by
  unfold hdO
  cases b
  · rw [if_neg (by decide), grO_pos _ _ (by simpa using h)]
  · rfl
theorem get_s2 {G L : Hp} {i j k : Nat} {x o o' : AObj} (h : G[i]? = some x) (h1 : k ≠ i) (h2 : j ≠ i) : ((G.set j o).set k o' ++ L)[i]? = some x := by
  rw [List.getElem?_append_left (by have := getElem?_lt h; simpa using this), List.getElem?_set_ne h1, List.getElem?_set_ne h2]; exact h
theorem appI {i q ty : Nat} {own : Bool} {J : AV → Hp → Prop} (l : List Int) (x : Int) (l2 : List Int) (e : l2 = l ++ [x]) (hi : H[i]? = some (grO 3 1 (l.map encI))) (hj : H[q]? = some (.row ty 1 [encI x] own)) (hb : l.length ≤ 1000000000)
    (h : J (.c (grV H.length l2)) (H.set i .dead ++ [grO 3 1 (l2.map encI)])) : aBuiltin Tryz.prog .append #[22, 22] [.c (grV i l), .c (.sl (some (q, 0)) 1)] H J := by
  subst e
  exact app_grR (enc := encI) (e := 3) (sz := 1) (bs := 8) (z := [.int .i64 0]) l [x] (by kernel_rfl) (by kernel_rfl) (by kernel_rfl) (by kernel_rfl) hi (by rw [hj]; rfl) (by simp) rfl (by decide) (by simp; omega) (by simp; omega) h
theorem drop_a {G : Hp} {c0 : Nat} {S : Nat → Option AObj} {c p : Int} {nd : Nd} {s : Nm} (hN : NodeAt c0 S c p nd s G) (k : Nat) (hk0 : k < nd.l.length) (h1 : nd.l.length ≤ 1000000) (h2 : nd.drp.length ≤ 1000000)
    (hk : ∀ G' s', s'.b = true → NodeAt c0 S c p { nd with l := nd.l.eraseIdx k, drp := nd.drp ++ [nd.l[k].p.n] } s' G' → K (.tup []) G') : ACalls Tryz.prog 137 [.c (.ptr (some (c0, 0, 0))), (.c (.int .i64 k))] G K := by
  (obtain ⟨pre, hc, hm, hl, ho, hd, hr, hw, ne⟩ := hN; simp only [List.nodup_cons, List.mem_cons, List.not_mem_nil, or_false, not_or, List.nodup_nil, and_true, not_false_eq_true] at ne; obtain ⟨⟨m1, m2, m3, m4, m5, m6⟩, ⟨n1, n2, n3, n4, n5⟩, ⟨n6, n7, n8, n9⟩, ⟨n10, n11, n12⟩, ⟨n13, n14⟩, n15⟩ := ne; have hcl := getElem?_lt hc; have hml := getElem?_lt hm; have hll := getElem?_lt hl; have hol := getElem?_lt ho; have hdl := getElem?_lt hd; have hrl := getElem?_lt hr; have hwl := getElem?_lt hw)
  have hne : nd.l ≠ [] := by intro h; rw [h] at hk0; simp at hk0
  have hc' := hc
  unfold nodeO at hc'
  rw [hdV_pos _ _ hne] at hc'
  rw [hdO_pos _ hne] at hl
  refine acallsS Tryz.func137 rfl (by simp (disch := first | omega | (simp only [go_sem]; first | done | omega)) only [go_sem]) (fun hH => ?_)
  obtain ⟨dr, hdr⟩ : ∃ dr, dr = nd.drp ++ [nd.l[k].p.n] := ⟨_, rfl⟩
  refine SWp.go (by kernel_rfl) ?_
  repeat' (first | ((first | refine acond_d ?_ ?_ | refine acond_b ?_ ?_ | refine ag_d ?_ ?_ | refine ag_n ?_ ?_ | refine ag_bt ?_ ?_ | refine ag_bf ?_ ?_ | refine agt_d ?_ ?_ | refine agt_n ?_ ?_ | refine agt_bt ?_ ?_ | refine agt_bf ?_ ?_) <;> intro c <;> try simp (disch := first | omega | (simp only [go_sem]; first | done | omega)) only [go_sem, c, hc', hd, hl, hcl, hdl, hll, m4, m2]) | ((first | refine w_draw (by kernel_rfl) (by decide +kernel) ?_ | refine appI nd.drp nd.l[k].p.n dr hdr (get_old hd _) (at0 rfl) (by omega) ?_ | refine w_tree (.one 0 (.one 1 (.one 2 (.one 3 (.one 4 (.one 5 (.one 6 (.one 7 (.one 8 (.one 9 (.one 10 (.one 11 (.one 12 (.one 13 (.one 14 (.one 15 (.one 16 (.one 17 (.one 18 .done))))))))))))))))))) (by kernel_rfl) (by decide +kernel) ?_) <;> try simp (disch := first | omega | (simp only [go_sem]; first | done | omega)) only [go_sem, hc', hd, hl, hcl, hdl, hll, m4, m2]) | (refine And.intro ?_ ?_ <;> try simp (disch := first | omega | (simp only [go_sem]; first | done | omega)) only [go_sem, hc', hd, hl, hcl, hdl, hll, m4, m2]))
  all_goals
    refine SWp.of (by kernel_rfl) ?_
    simp (disch := first | omega | (simp only [go_sem]; first | done | omega)) only [go_sem, hcl, hll, m4, m2]
    repeat' (first | ((first | refine acond_d ?_ ?_ | refine acond_b ?_ ?_ | refine ag_d ?_ ?_ | refine ag_n ?_ ?_ | refine ag_bt ?_ ?_ | refine ag_bf ?_ ?_) <;> intro c <;> try simp (disch := first | omega | (simp only [go_sem]; first | done | omega)) only [go_sem, c, hcl, hll, m4, m2]) | ((first | refine w_draw (by kernel_rfl) (by decide +kernel) ?_ | refine deleteHd_a nd.l k hk0 (get_s2 hl (by omega) (by omega)) rfl (by omega) ?_) <;> try simp (disch := first | omega | (simp only [go_sem]; first | done | omega)) only [go_sem, hcl, hll, m4, m2]))
  all_goals
    rw [hdr]
    refine Ret.same (by simp) (hk _ { s with b := true, d := G.length + 1 } rfl ⟨?_, ?_, ?_, ?_, ?_, ?_, ?_, ?_, ?_⟩) <;> (first | (simp only [List.nodup_cons, List.mem_cons, List.not_mem_nil, or_false, not_or, List.nodup_nil, and_true, not_false_eq_true]; (try dsimp only); (repeat' apply And.intro) <;> omega) | (intro q o hq; obtain ⟨g1, g2⟩ := pre q o hq; have g3 := getElem?_lt g1; simp only [List.mem_cons, List.not_mem_nil, or_false, not_or] at g2 ⊢; refine ⟨?_, by (try dsimp only); omega⟩; (try rw [List.getElem?_append_left (by (try simp only [List.length_set]); omega)]); (repeat rw [List.getElem?_set_ne (by omega)]); exact g1) | ((try dsimp only); (try rw [List.getElem?_append_left (by (try simp only [List.length_set]); omega)]); (repeat rw [List.getElem?_set_ne (by omega)]); first | assumption | (rw [List.getElem?_set_self (by (try simp only [List.length_set]); omega)]; done) | (rw [List.getElem?_set_self (by (try simp only [List.length_set]); omega)]; rfl) | (rw [List.getElem?_set_self (by (try simp only [List.length_set]); omega)]; simp [nodeO, hdV, hdO, *]; done)) | ((try dsimp only); rw [List.getElem?_append_right (by (try simp only [List.length_set]); omega)]; (try simp only [List.length_set, Nat.add_sub_cancel_left, Nat.sub_self]); rfl))
theorem drop0_a {G : Hp} {c0 : Nat} {S : Nat → Option AObj} {c p : Int} {nd : Nd} {s : Nm} (hN : NodeAt c0 S c p nd s G) (hk0 : 0 < nd.l.length) (h1 : nd.l.length ≤ 1000000) (h2 : nd.drp.length ≤ 1000000)
    (hk : ∀ G' s', s'.b = true → NodeAt c0 S c p { nd with l := nd.l.eraseIdx 0, drp := nd.drp ++ [nd.l[0].p.n] } s' G' → K (.tup []) G') : ACalls Tryz.prog 137 [.c (.ptr (some (c0, 0, 0))), (.c (.int .i64 0))] G K := drop_a hN 0 hk0 h1 h2 hk
end Go.Proofs.YtnpdbnkgipkgaaaGreat

