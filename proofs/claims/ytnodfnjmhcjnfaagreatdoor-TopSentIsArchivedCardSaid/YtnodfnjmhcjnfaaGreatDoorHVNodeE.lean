/- Packets sent. No condition. -/
import Derived.Test.YtnodfnjmhcjnfaaGreatDoorHVGK
namespace Go.Proofs.YtnodfnjmhcjnfaaGreatDoor
open Go Go.RowKit
set_option maxRecDepth 100000
set_option linter.all false
set_option maxHeartbeats 2000000
variable {H : Hp} {K : AV → Hp → Prop}
structure Snd (nd : Nd) (c : Int) (c' : Int) (l1 : List Hd) (o1 : List Pk) (t : List Hd) : Prop where
  l : l1 ++ (sendG c' t).1 = (sendG c nd.l).1
  o : o1 ++ (sendG c' t).2 = (sendG c nd.l).2
theorem snd_0 (nd : Nd) (c : Int) : Snd nd c c [] [] nd.l := ⟨rfl, rfl⟩
theorem snd_y {nd : Nd} {c c' : Int} {l1 : List Hd} {o1 : List Pk} {x : Hd} {t : List Hd} (h : Snd nd c c' l1 o1 (x :: t)) (hc : 0 < c' ∧ x.sent = false) : Snd nd c (c' - 1) (l1 ++ [⟨x.p, true⟩]) (o1 ++ [x.p]) t := by
  obtain ⟨h1, h2⟩ := h
  rw [sendG, if_pos hc] at h1 h2
  exact ⟨by simpa using h1, by simpa using h2⟩
theorem snd_n {nd : Nd} {c c' : Int} {l1 : List Hd} {o1 : List Pk} {x : Hd} {t : List Hd} (h : Snd nd c c' l1 o1 (x :: t)) (hc : ¬(0 < c' ∧ x.sent = false)) : Snd nd c c' (l1 ++ [x]) o1 t := by
  obtain ⟨h1, h2⟩ := h
  rw [sendG, if_neg hc] at h1 h2
  exact ⟨by simpa using h1, by simpa using h2⟩
theorem snd_e {nd : Nd} {c c' : Int} {l1 : List Hd} {o1 : List Pk} (h : Snd nd c c' l1 o1 []) : { nd with l := l1, out := nd.out ++ o1, ever := (o1.map (fun q => q.n)).foldl addE nd.ever } = sendF c nd := by
  obtain ⟨h1, h2⟩ := h
  rw [sendG] at h1 h2
  rw [List.append_nil] at h1 h2
  unfold sendF
  rw [h1, h2]
theorem appPk {i q ty : Nat} {own : Bool} {J : AV → Hp → Prop} (l : List Pk) (x : Pk) (l2 : List Pk) (e : l2 = l ++ [x]) (hi : H[i]? = some (grO 95 5 (l.map encPk))) (hj : H[q]? = some (.row ty 5 [encPk x] own)) (hb : l.length ≤ 1000000000)
    (h : J (.c (grV H.length l2)) (H.set i .dead ++ [grO 95 5 (l2.map encPk)])) : aBuiltin Tryz.prog .append #[90, 90] [.c (grV i l), .c (.sl (some (q, 0)) 1)] H J := by
  subst e
  exact app_grR (enc := encPk) (e := 95) (sz := 5) (bs := 48) (z := [.int .i64 0, .str ⟨#[]⟩, .int .i64 0, .int .i64 0, .int .i64 0]) l [x] (by kernel_rfl) (by kernel_rfl) (by kernel_rfl) (by kernel_rfl) hi (by rw [hj]; rfl) (by simp) rfl (by decide) (by simp; omega) (by simp; omega) h
theorem nsend_a {G : Hp} {c0 : Nat} {S : Nat → Option AObj} {cc pp : Int} {nd : Nd} {s : Nm} (n : Int) (hN : NodeAt c0 S cc pp nd s G) (hn : n ≤ 1000000) (h1 : nd.l.length ≤ 100000) (h2 : nd.out.length ≤ 100000000)
    (hk : ∀ G' s', NodeAt c0 S cc pp (sendF n nd) s' G' → K (.tup []) G') : ACalls Tryz.prog 226 [.c (.ptr (some (c0, 0, 0))), (.c (.int .i64 n))] G K := by
  have hc := hN.hc
  have hcl := getElem?_lt hc
  unfold nodeO at hc
  obtain ⟨inv, hinv⟩ : ∃ inv : Nm × Hp × Int × List Hd × List Pk × List Hd → Prop, inv = fun q => NodeAt c0 S cc pp { nd with l := q.2.2.2.1 ++ q.2.2.2.2.2, out := nd.out ++ q.2.2.2.2.1, ever := (q.2.2.2.2.1.map (fun q => q.n)).foldl addE nd.ever } q.1 q.2.1 ∧ Snd nd n q.2.2.1 q.2.2.2.1 q.2.2.2.2.1 q.2.2.2.2.2 ∧ q.2.2.2.1.length + q.2.2.2.2.2.length = nd.l.length ∧ q.2.2.2.2.1.length ≤ q.2.2.2.1.length ∧ G.length ≤ q.2.1.length ∧ q.2.2.1 ≤ 1000000 := ⟨_, rfl⟩
  refine acalls Tryz.func226 rfl (by kernel_rfl) (by simp (disch := first | omega | (simp only [go_sem]; first | done | omega)) only [go_sem]) (fun hH => ?_)
  simp (disch := first | omega | (simp only [go_sem]; first | done | omega)) only [go_sem, hc, hcl]
  refine AWp.loop (G.length) [0, 9] [1, 10] (fun (q : Nm × Hp × Int × List Hd × List Pk × List Hd) => inv q) (fun (q : Nm × Hp × Int × List Hd × List Pk × List Hd) => [(1, (.c (.int .i64 (q.2.2.1)))), (10, (.c (.int .i64 (q.2.2.2.1.length))))]) (fun (q : Nm × Hp × Int × List Hd × List Pk × List Hd) => q.2.1) (fun (q : Nm × Hp × Int × List Hd × List Pk × List Hd) => q.2.2.2.2.2.length) (by kernel_rfl) (fun _ => rfl) (by kernel_rfl) (by first | (simp; done) | omega) (by first | (simp; done) | (simp; omega) | omega) kl ?_ (fun q hq hm _ => ?_)
  · refine Next.mk (s, G, n, [], [], nd.l) (by rw [hinv]; exact ⟨by simpa using hN, snd_0 nd n, by simp, by simp, Nat.le_refl _, hn⟩) ?_
    exact wk
  obtain ⟨s', G', c', l1, o1, t⟩ := q
  rw [hinv] at hq
  obtain ⟨hN', q1, q2, q3, q4, q5⟩ := hq
  dsimp only at hN' q1 q2 q3 q4 q5 hm ⊢
  cases t with
  | nil =>
    have qe : l1.length = nd.l.length := by simpa using q2
    simp (disch := first | omega | (simp only [go_sem]; first | done | omega)) only [go_sem, qe]
    rw [List.append_nil, snd_e q1] at hN'
    exact Ret.same q4 (hk _ _ hN')
  | cons x t =>
    obtain ⟨L, hL⟩ : ∃ L, L = l1 ++ x :: t := ⟨_, rfl⟩
    rw [← hL] at hN'
    have hLk : l1.length < L.length := by rw [hL]; simp
    have hLx : L[l1.length] = x := by subst hL; simp
    have hLn : L.length = nd.l.length := by rw [hL]; simpa using q2
    have hLe : L ≠ [] := by intro h; rw [h] at hLk; simp at hLk
    obtain ⟨ev, hev⟩ : ∃ ev, (o1.map (fun q => q.n)).foldl addE nd.ever = ev := ⟨_, rfl⟩
    rw [hev] at hN'
    have hc3 := hN'.hc
    unfold nodeO at hc3
    dsimp only at hc3
    rw [hdV_pos _ _ hLe] at hc3
    have hcl3 := getElem?_lt hc3
    have hl3 := hN'.hl
    dsimp only at hl3
    rw [hdO_pos _ hLe] at hl3
    have hll3 := getElem?_lt hl3
    by_cases hy : 0 < c' ∧ x.sent = false
    · have hs2 : L[l1.length].sent = false := by rw [hLx]; exact hy.2
      obtain ⟨d1, d2, d3, d4, d5, d6⟩ : s'.l ≠ c0 ∧ s'.m ≠ c0 ∧ s'.o ≠ c0 ∧ s'.l ≠ s'.m ∧ s'.l ≠ s'.o ∧ s'.m ≠ s'.o := by
        have hN := hN'
        (obtain ⟨pre, hc, hm, hl, ho, hd, hr, hw, ne⟩ := hN; simp only [List.nodup_cons, List.mem_cons, List.not_mem_nil, or_false, not_or, List.nodup_nil, and_true, not_false_eq_true] at ne; obtain ⟨⟨m1, m2, m3, m4, m5, m6⟩, ⟨n1, n2, n3, n4, n5⟩, ⟨n6, n7, n8, n9⟩, ⟨n10, n11, n12⟩, ⟨n13, n14⟩, n15⟩ := ne; have hcl := getElem?_lt hc; have hml := getElem?_lt hm; have hll := getElem?_lt hl; have hol := getElem?_lt ho; have hdl := getElem?_lt hd; have hrl := getElem?_lt hr; have hwl := getElem?_lt hw)
        refine ⟨?_, ?_, ?_, ?_, ?_, ?_⟩ <;> omega
      have hm2 : G'[s'.m]? = some (mpO (ev.map encEv)) := hN'.hm
      have hml := getElem?_lt hm2
      have ho := hN'.ho
      dsimp only at ho
      have hol := getElem?_lt ho
      obtain ⟨o2, ho2⟩ : ∃ o2, o2 = (nd.out ++ o1) ++ [x.p] := ⟨_, rfl⟩
      have hob : (nd.out ++ o1).length ≤ 1000000000 := by rw [List.length_append]; simp only [List.length_append, List.length_cons, List.length_nil] at q2; omega
      simp (disch := first | omega | (simp only [go_sem]; first | done | omega)) only [go_sem, hc3, hcl3, hl3, hll3, hs2, hy.1]
      obtain ⟨L2, hL2⟩ : ∃ L2, L2 = L.set l1.length ⟨x.p, true⟩ := ⟨_, rfl⟩
      have hL2l : L2.length = L.length := by rw [hL2, List.length_set]
      have hL2e : L2 ≠ [] := by intro h; rw [h] at hL2l; simp at hL2l; omega
      have hL2t : L2 = (l1 ++ [⟨x.p, true⟩]) ++ t := by rw [hL2, hL, List.set_append_right _ _ (Nat.le_refl _), Nat.sub_self, List.set_cons_zero, List.append_assoc]; rfl
      have hev2 : ((o1 ++ [x.p]).map (fun q => q.n)).foldl addE nd.ever = addE ev x.p.n := by rw [List.map_append, List.foldl_append, hev]; rfl
      have hro : AObj.row 291 6 ((L.map encHd).set l1.length [.int .i64 x.p.n, .str x.p.tag, .int .i64 x.p.s.t, .int .i64 x.p.s.v, .int .i64 x.p.s.q, .bool true]) true = hdO s'.b L2 := by rw [hdO_pos _ hL2e, hL2, List.map_set]; rfl
      have fin : ∀ G2 s2, NodeAt c0 S cc pp { nd with l := L2, out := o2, ever := addE ev x.p.n } s2 G2 → G.length ≤ G2.length → inv (s2, G2, c' - 1, l1 ++ [⟨x.p, true⟩], o1 ++ [x.p], t) := by
        intro G2 s2 g1 g2
        rw [hinv]
        refine ⟨?_, snd_y q1 hy, ?_, ?_, g2, by dsimp only; omega⟩
        · dsimp only
          rw [hev2, ← hL2t, ← List.append_assoc, ← ho2]
          exact g1
        · simp only [List.length_append, List.length_cons, List.length_nil] at q2 ⊢; omega
        · simp only [List.length_append, List.length_cons, List.length_nil]; omega
      repeat' (first | ((first | refine acond_d ?_ ?_ | refine acond_b ?_ ?_ | refine ag_d ?_ ?_ | refine ag_n ?_ ?_ | refine ag_bt ?_ ?_ | refine ag_bf ?_ ?_ | refine agt_d ?_ ?_ | refine agt_n ?_ ?_ | refine agt_bt ?_ ?_ | refine agt_bf ?_ ?_) <;> intro c <;> try simp (disch := first | omega | (simp only [go_sem]; first | done | omega)) only [go_sem, c, hc3, hcl3, hl3, hll3, hs2, hy.1, hm2, hml, hol, hLx]) | ((first | refine w_draw (by kernel_rfl) (by decide +kernel) ?_ | refine mup_mp (by kernel_rfl) (put_ever _ ev (by kernel_rfl)) ?_ | refine appPk (nd.out ++ o1) x.p o2 ho2 (get_s2 ho d6 d5) (at0 (by simp)) hob ?_ | refine w_tree (.one 0 (.one 1 (.one 2 (.one 3 (.one 4 (.one 5 (.one 6 (.one 7 (.one 8 (.one 9 (.one 10 (.one 11 (.one 12 (.one 13 .done)))))))))))))) (by kernel_rfl) (by decide +kernel) ?_ | refine w_tree (.one 0 (.one 1 (.one 2 (.one 3 (.one 4 (.one 5 (.one 6 (.one 7 (.one 8 (.one 9 (.one 10 (.one 11 (.one 12 (.one 13 (.one 14 (.one 15 (.one 16 (.one 17 .done)))))))))))))))))) (by kernel_rfl) (by decide +kernel) ?_) <;> try simp (disch := first | omega | (simp only [go_sem]; first | done | omega)) only [go_sem, hc3, hcl3, hl3, hll3, hs2, hy.1, hm2, hml, hol, hLx]) | (refine And.intro ?_ ?_ <;> try simp (disch := first | omega | (simp only [go_sem]; first | done | omega)) only [go_sem, hc3, hcl3, hl3, hll3, hs2, hy.1, hm2, hml, hol, hLx]))
      all_goals
        refine Next.mk ({ s' with o := G'.length + 1 }, _, c' - 1, l1 ++ [⟨x.p, true⟩], o1 ++ [x.p], t) ⟨fin _ _ ⟨?_, ?_, ?_, ?_, ?_, ?_, ?_, ?_, ?_⟩ ?_, by simp⟩ (by dsimp only; rw [List.length_append, List.length_singleton]; exact WkL.eq (by simp; omega) rfl)
        rotate_left 9
        · simp; omega
        all_goals
          have hN := hN'
          (obtain ⟨pre, hc, hm, hl, ho, hd, hr, hw, ne⟩ := hN; simp only [List.nodup_cons, List.mem_cons, List.not_mem_nil, or_false, not_or, List.nodup_nil, and_true, not_false_eq_true] at ne; obtain ⟨⟨m1, m2, m3, m4, m5, m6⟩, ⟨n1, n2, n3, n4, n5⟩, ⟨n6, n7, n8, n9⟩, ⟨n10, n11, n12⟩, ⟨n13, n14⟩, n15⟩ := ne; have hcl := getElem?_lt hc; have hml := getElem?_lt hm; have hll := getElem?_lt hl; have hol := getElem?_lt ho; have hdl := getElem?_lt hd; have hrl := getElem?_lt hr; have hwl := getElem?_lt hw)
        rotate_left 1
        · unfold nodeO
          dsimp only
          rw [hdV_pos _ _ hL2e, hL2l]
          (first | (simp only [List.nodup_cons, List.mem_cons, List.not_mem_nil, or_false, not_or, List.nodup_nil, and_true, not_false_eq_true]; (try dsimp only); (repeat' apply And.intro) <;> omega) | (intro q o hq; obtain ⟨g1, g2⟩ := pre q o hq; have g3 := getElem?_lt g1; simp only [List.mem_cons, List.not_mem_nil, or_false, not_or] at g2 ⊢; refine ⟨?_, by (try dsimp only); omega⟩; (try rw [List.getElem?_append_left (by (try simp only [List.length_set]); omega)]); (repeat rw [List.getElem?_set_ne (by omega)]); exact g1) | ((try dsimp only); (try rw [List.getElem?_append_left (by (try simp only [List.length_set]); omega)]); (repeat rw [List.getElem?_set_ne (by omega)]); first | assumption | (rw [List.getElem?_set_self (by (try simp only [List.length_set]); omega)]; done) | (rw [List.getElem?_set_self (by (try simp only [List.length_set]); omega)]; rfl) | (rw [List.getElem?_set_self (by (try simp only [List.length_set]); omega)]; simp [nodeO, hdV, hdO, *]; done)) | ((try dsimp only); rw [List.getElem?_append_right (by (try simp only [List.length_set]); omega)]; (try simp only [List.length_set, Nat.add_sub_cancel_left, Nat.sub_self]); rfl))
        rotate_left 1
        · dsimp only
          rw [← hro]
          (first | (simp only [List.nodup_cons, List.mem_cons, List.not_mem_nil, or_false, not_or, List.nodup_nil, and_true, not_false_eq_true]; (try dsimp only); (repeat' apply And.intro) <;> omega) | (intro q o hq; obtain ⟨g1, g2⟩ := pre q o hq; have g3 := getElem?_lt g1; simp only [List.mem_cons, List.not_mem_nil, or_false, not_or] at g2 ⊢; refine ⟨?_, by (try dsimp only); omega⟩; (try rw [List.getElem?_append_left (by (try simp only [List.length_set]); omega)]); (repeat rw [List.getElem?_set_ne (by omega)]); exact g1) | ((try dsimp only); (try rw [List.getElem?_append_left (by (try simp only [List.length_set]); omega)]); (repeat rw [List.getElem?_set_ne (by omega)]); first | assumption | (rw [List.getElem?_set_self (by (try simp only [List.length_set]); omega)]; done) | (rw [List.getElem?_set_self (by (try simp only [List.length_set]); omega)]; rfl) | (rw [List.getElem?_set_self (by (try simp only [List.length_set]); omega)]; simp [nodeO, hdV, hdO, *]; done)) | ((try dsimp only); rw [List.getElem?_append_right (by (try simp only [List.length_set]); omega)]; (try simp only [List.length_set, Nat.add_sub_cancel_left, Nat.sub_self]); rfl))
        all_goals (first | (simp only [List.nodup_cons, List.mem_cons, List.not_mem_nil, or_false, not_or, List.nodup_nil, and_true, not_false_eq_true]; (try dsimp only); (repeat' apply And.intro) <;> omega) | (intro q o hq; obtain ⟨g1, g2⟩ := pre q o hq; have g3 := getElem?_lt g1; simp only [List.mem_cons, List.not_mem_nil, or_false, not_or] at g2 ⊢; refine ⟨?_, by (try dsimp only); omega⟩; (try rw [List.getElem?_append_left (by (try simp only [List.length_set]); omega)]); (repeat rw [List.getElem?_set_ne (by omega)]); exact g1) | ((try dsimp only); (try rw [List.getElem?_append_left (by (try simp only [List.length_set]); omega)]); (repeat rw [List.getElem?_set_ne (by omega)]); first | assumption | (rw [List.getElem?_set_self (by (try simp only [List.length_set]); omega)]; done) | (rw [List.getElem?_set_self (by (try simp only [List.length_set]); omega)]; rfl) | (rw [List.getElem?_set_self (by (try simp only [List.length_set]); omega)]; simp [nodeO, hdV, hdO, *]; done)) | ((try dsimp only); rw [List.getElem?_append_right (by (try simp only [List.length_set]); omega)]; (try simp only [List.length_set, Nat.add_sub_cancel_left, Nat.sub_self]); rfl))
    · have hy1 : 0 < c' → x.sent = true := fun h => by cases hs : x.sent with | true => rfl | false => exact absurd ⟨h, hs⟩ hy
      have hsx : x.sent = L[l1.length].sent := by rw [hLx]
      simp (disch := first | omega | (simp only [go_sem]; first | done | omega)) only [go_sem, hc3, hcl3, hl3, hll3]
      repeat' (first | ((first | refine acond_d ?_ ?_ | refine acond_b ?_ ?_ | refine ag_d ?_ ?_ | refine ag_n ?_ ?_ | refine ag_bt ?_ ?_ | refine ag_bf ?_ ?_) <;> intro c <;> try simp (disch := first | omega | (simp only [go_sem]; first | done | omega)) only [go_sem, c, hc3, hcl3, hl3, hll3]) | ((first | refine w_draw (by kernel_rfl) (by decide +kernel) ?_) <;> try simp (disch := first | omega | (simp only [go_sem]; first | done | omega)) only [go_sem, hc3, hcl3, hl3, hll3]))
      all_goals first
        | (exfalso; rw [← hsx] at c; have := hy1 (by assumption); rw [this] at c; exact absurd c (by decide))
        | (refine Next.mk (s', G', c', l1 ++ [x], o1, t) ⟨by rw [hinv]; exact ⟨by dsimp only; rw [List.append_assoc, List.singleton_append, ← hL, hev]; exact hN', snd_n q1 hy, by simp only [List.length_append, List.length_cons, List.length_nil] at q2 ⊢; omega, by simp only [List.length_append, List.length_cons, List.length_nil]; omega, q4, q5⟩, by simp⟩ ?_; dsimp only; rw [List.length_append, List.length_singleton]; exact wk)
end Go.Proofs.YtnodfnjmhcjnfaaGreatDoor
