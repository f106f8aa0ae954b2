/- The document's answer: a step of a buffer. No condition. -/
import Derived.Test.YtnpdbnkgipkgaaaGreatHVKeptC
import Derived.Test.YtnpdbnkgipkgaaaGreatHVNodeF
namespace Go.Proofs.YtnpdbnkgipkgaaaGreat
open Go Go.RowKit
set_option maxRecDepth 100000
set_option linter.all false
set_option maxHeartbeats 2000000
variable {H : Hp} {K : AV → Hp → Prop}
theorem indexRowPq_a (f : FuncId) (caps : List (Nat × Nat × Nat)) (p : Pk → Bool) (he : entersB Tryz.prog f = true) (hc : ∀ (a b c : Nat), (a, b, c) ∈ caps → a < H.length) {i ty n : Nat} {own : Bool} (l : List Pk) (hi : H[i]? = some (.row ty 5 (l.map encPk) own)) (hn : n = l.length) (hf : ∀ (x : Pk) (K : AV → Hp → Prop), x ∈ l → K (.c (.bool (p x))) H → ACalls Tryz.prog f (.agg (encPk x) :: caps.map fun q => .c (.ptr (some q))) H K) (hlen : l.length ≤ 1099511627776)
    (hk0 : l.any p = false → K (.c (.int .i64 (-1))) H) (hk1 : ∀ k : Nat, (h : k < l.length) → p l[k] = true → (∀ j (h : j < l.length), j < k → p l[j] = false) → K (.c (.int .i64 k)) H) : ACalls Tryz.prog 182 [.c (.sl (some (i, 0)) n), .c (.fn f [] caps)] H K := by
  subst hn
  have hilt := getElem?_lt hi
  refine acalls Tryz.func182 rfl (by kernel_rfl) (by simp (disch := first | omega | (simp only [go_sem]; first | done | omega)) only [go_sem]) (fun hH => ?_)
  simp (disch := first | omega | (simp only [go_sem]; first | done | omega)) only [go_sem]
  refine AWp.loop (H.length) [0, 1, 7] [8] (fun (k : Nat) => k ≤ l.length ∧ ∀ j (h : j < l.length), j < k → p l[j] = false) (fun (k : Nat) => [(8, (.c (.int .i64 k)))]) (fun (k : Nat) => H) (fun (k : Nat) => l.length - k) (by kernel_rfl) (fun _ => rfl) (by kernel_rfl) (by first | (simp; done) | omega) (by first | (simp; done) | (simp; omega) | omega) (by (try simp only [List.forall_mem_cons, List.not_mem_nil, false_implies, implies_true, and_true]); (try simp (disch := first | omega | (simp only [go_sem]; first | done | omega)) only [go_sem]); all_goals first | trivial | (simp [AV.ok, AV.ok1, AC.ok]; done) | (simp [AV.ok, AV.ok1, AC.ok]; omega) | (simp [AV.ok, AV.ok1, AC.ok]; assumption) | ((repeat' apply And.intro) <;> first | trivial | (simp [AV.ok, AV.ok1, AC.ok]; done) | (simp [AV.ok, AV.ok1, AC.ok]; omega) | (simp [AV.ok, AV.ok1, AC.ok]; assumption) | (refine grV_ok ?_ _; first | (simp; done) | (simp; omega) | omega))) ?_ (fun k hk1' _ _ => ?_)
  · exact Next.mk 0 (by simp) (by (try simp (disch := first | omega | (simp only [go_sem]; first | done | omega)) only [go_sem]); (first | refine WkL.eq ?_ ?_ | refine WkL.rest (by assumption) ?_ ?_ ?_ | refine WkL.keepL (by assumption) rfl ?_ ?_ ?_ ?_) <;> first | rfl | (simp; done) | (simp; omega) | (simp only [List.cons.injEq, AV.c.injEq, AC.int.injEq, AC.bool.injEq, AC.str.injEq, and_true, true_and, Int.natCast_add, Int.natCast_one, Int.cast_ofNat_Int]; omega) | (simp [AV.ok, AV.ok1, AC.ok]; done) | (simp [AV.ok, AV.ok1, AC.ok]; omega) | (simp only [List.forall_mem_cons, List.not_mem_nil, false_implies, implies_true, and_true]; (repeat' apply And.intro) <;> first | exact okN_map (fun x => by simp [go_sem, AC.pure]) | exact okN_grO (fun x => by simp [go_sem, AC.pure]) | (simp [AObj.okN, AC.ok]; done) | (simp [AObj.okN, AC.ok]; omega)) | (simp [*]; done) | grind)
  obtain ⟨hk1', hk2⟩ := hk1'
  by_cases hlt : k < l.length
  · simp (disch := first | omega | (simp only [go_sem]; first | done | omega)) only [go_sem, he, hi]
    refine hf l[k] _ (List.getElem_mem hlt) ?_
    simp (disch := first | omega | (simp only [go_sem]; first | done | omega)) only [go_sem]
    refine acond_b (fun c => ?_) (fun c => ?_)
    · simp (disch := first | omega | (simp only [go_sem]; first | done | omega)) only [go_sem]
      exact Ret.same (Nat.le_refl _) (hk1 k hlt c hk2)
    · simp (disch := first | omega | (simp only [go_sem]; first | done | omega)) only [go_sem]
      refine Next.mk (k + 1) ⟨⟨by omega, fun j h hj => ?_⟩, by omega⟩ (by (try simp (disch := first | omega | (simp only [go_sem]; first | done | omega)) only [go_sem]); (first | refine WkL.eq ?_ ?_ | refine WkL.rest (by assumption) ?_ ?_ ?_ | refine WkL.keepL (by assumption) rfl ?_ ?_ ?_ ?_) <;> first | rfl | (simp; done) | (simp; omega) | (simp only [List.cons.injEq, AV.c.injEq, AC.int.injEq, AC.bool.injEq, AC.str.injEq, and_true, true_and, Int.natCast_add, Int.natCast_one, Int.cast_ofNat_Int]; omega) | (simp [AV.ok, AV.ok1, AC.ok]; done) | (simp [AV.ok, AV.ok1, AC.ok]; omega) | (simp only [List.forall_mem_cons, List.not_mem_nil, false_implies, implies_true, and_true]; (repeat' apply And.intro) <;> first | exact okN_map (fun x => by simp [go_sem, AC.pure]) | exact okN_grO (fun x => by simp [go_sem, AC.pure]) | (simp [AObj.okN, AC.ok]; done) | (simp [AObj.okN, AC.ok]; omega)) | (simp [*]; done) | grind)
      rcases Nat.lt_or_ge j k with h1 | h1
      · exact hk2 j h h1
      · obtain rfl : j = k := by omega
        simpa using c
  · simp (disch := first | omega | (simp only [go_sem]; first | done | omega)) only [go_sem]
    refine Ret.same (Nat.le_refl _) (hk0 ?_)
    rw [List.any_eq_false]
    intro x hx
    obtain ⟨j, hj, rfl⟩ := List.getElem_of_mem hx
    simpa using hk2 j hj (by omega)
theorem containsPq_a (f : FuncId) (caps : List (Nat × Nat × Nat)) (p : Pk → Bool) (he : entersB Tryz.prog f = true) (hc : ∀ (a b c : Nat), (a, b, c) ∈ caps → a < H.length) {i : Nat} (l : List Pk) (hi : H[i]? = some (grO 56 5 (l.map encPk))) (hf : ∀ (x : Pk) (K : AV → Hp → Prop), x ∈ l → K (.c (.bool (p x))) H → ACalls Tryz.prog f (.agg (encPk x) :: caps.map fun q => .c (.ptr (some q))) H K) (hlen : l.length ≤ 1099511627776)
    (hk : K (.c (.bool (l.any p))) H) : ACalls Tryz.prog 143 [.c (grV i l), .c (.fn f [] caps)] H K := by
  by_cases h0 : l = []
  · subst h0
    have hnil : ∀ (K : AV → Hp → Prop), K (.c (.int .i64 (-1))) H → ACalls Tryz.prog 182 [.c (.sl none 0), .c (.fn f [] caps)] H K := by
      intro K hk
      refine acalls Tryz.func182 rfl (by kernel_rfl) (by simp (disch := first | omega | (simp only [go_sem]; first | done | omega)) only [go_sem]) (fun hH => ?_)
      simp (disch := first | omega | (simp only [go_sem]; first | done | omega)) only [go_sem]
      refine AWp.rounds 0 (by kernel_rfl) ?_
      simp (disch := first | omega | (simp only [go_sem]; first | done | omega)) only [go_sem]
      exact Ret.same (Nat.le_refl _) hk
    show ACalls _ _ [.c (.sl none 0), .c (.fn f [] caps)] H K
    refine acalls Tryz.func143 rfl (by kernel_rfl) (by simp (disch := first | omega | (simp only [go_sem]; first | done | omega)) only [go_sem]) (fun hH => ?_)
    simp (disch := first | omega | (simp only [go_sem]; first | done | omega)) only [go_sem]
    refine hnil _ ?_
    simp (disch := first | omega | (simp only [go_sem]; first | done | omega)) only [go_sem]
    exact Ret.same (Nat.le_refl _) hk
  · rw [grO_pos _ _ (by simpa using h0)] at hi
    rw [grV_pos _ h0]
    refine acalls Tryz.func143 rfl (by kernel_rfl) (by simp (disch := first | omega | (simp only [go_sem]; first | done | omega)) only [go_sem]) (fun hH => ?_)
    simp (disch := first | omega | (simp only [go_sem]; first | done | omega)) only [go_sem]
    refine indexRowPq_a f caps p he hc l hi rfl hf hlen (fun h => ?_) (fun k h1 h2 _ => ?_)
    · rw [h] at hk
      simp (disch := first | omega | (simp only [go_sem]; first | done | omega)) only [go_sem]
      exact Ret.same (Nat.le_refl _) hk
    · rw [show l.any p = true from List.any_eq_true.2 ⟨_, List.getElem_mem h1, h2⟩] at hk
      simp (disch := first | omega | (simp only [go_sem]; first | done | omega)) only [go_sem]
      exact Ret.same (Nat.le_refl _) hk
theorem ACalls.grow {P : Program} {f : FuncId} {args : List AV} {H : Hp} {K : AV → Hp → Prop} (h : ACalls P f args H (fun v G => H.length ≤ G.length → HOk G → K v G)) : ACalls P f args H K :=
  fun B w0 ι w vs hs hr ho => (h B w0 ι w vs hs hr ho).mono fun _ _ ⟨ι', v, av, H', h1, h2, h3, h4, h5, h6, h7⟩ => ⟨ι', v, av, H', h1, h2, h3, h4, h5, h6, h7 h3 h4.scope⟩
theorem capR {n m : Nat} (h : n < m) : ∀ (a b c : Nat), (a, b, c) ∈ [(n, 0, 0)] → a < m := by
  intro a b c hm
  simp at hm
  omega
theorem rs1_a (x : Pk) (z : Stp) {i ty : Nat} {own : Bool} (hi : H[i]? = some (.row ty 7 [encStp z] own)) (hk : K (.c (.bool (decide (x.n = z.seq)))) H) : ACalls Tryz.prog 144 [.agg (encPk x), .c (.ptr (some (i, 0, 0)))] H K := by
  have hilt := getElem?_lt hi
  refine acalls Tryz.func144 rfl (by kernel_rfl) (by simp (disch := first | omega | (simp only [go_sem]; first | done | omega)) only [go_sem]) (fun hH => ?_)
  simp (disch := first | omega | (simp only [go_sem]; first | done | omega)) only [go_sem, hi]
  exact Ret.drop hH (Nat.le_refl _) trivial hk
theorem rs2_a (x : Hd) (z : Stp) {i ty : Nat} {own : Bool} (hi : H[i]? = some (.row ty 7 [encStp z] own)) (hk : K (.c (.bool (decide (x.p.n ≤ z.seq)))) H) : ACalls Tryz.prog 147 [.agg (encHd x), .c (.ptr (some (i, 0, 0)))] H K := by
  have hilt := getElem?_lt hi
  refine acalls Tryz.func147 rfl (by kernel_rfl) (by simp (disch := first | omega | (simp only [go_sem]; first | done | omega)) only [go_sem]) (fun hH => ?_)
  simp (disch := first | omega | (simp only [go_sem]; first | done | omega)) only [go_sem, hi]
  exact Ret.drop hH (Nat.le_refl _) trivial hk
theorem NodeR.ev {c0 : Nat} {S : Nat → Option AObj} {c p : Int} {nd : Nd} {s : Nr} {G : Hp} (h : NodeR c0 S c p nd s G) (e : List Int) : NodeR c0 S c p { nd with ever := e } s G := ⟨h.pre, h.hc, h.hl, h.ho, h.hd, h.hr, h.hw, h.ne⟩
theorem rstep1_a {G : Hp} {c0 : Nat} {S : Nat → Option AObj} {cc pp : Int} {nd : Nd} {s : Nr} (x : Stp) (k1 : x.kind = 1) (hN : NodeR c0 S cc pp nd s G) (hcap : (nd.l.length : Int) ≤ cc) (hc0 : 0 < cc) (hpp : pp = 1 ∨ pp = 2 ∨ pp = 3) (h1 : nd.l.length ≤ 100000) (h2 : nd.drp.length ≤ 100000) (h3 : 0 ≤ nd.last ∧ nd.last ≤ 100000)
    (hk : ∀ G' s', NodeR c0 S cc pp (putF cc pp x nd) s' G' → K (.c (.int .i64 0)) G') : ACalls Tryz.prog 116 [.c (.ptr (some (c0, 0, 0))), .agg (encStp x)] G K := by
  refine acalls Tryz.func116 rfl (by kernel_rfl) (by simp (disch := first | omega | (simp only [go_sem]; first | done | omega)) only [go_sem]) (fun hH => ?_)
  simp (disch := first | omega | (simp only [go_sem]; first | done | omega)) only [go_sem, decide_eq_true k1]
  refine ACalls.grow (rput_a x (hN.app _) hcap hc0 hpp h1 h2 h3 (fun G' s' hN' hg _ => ?_))
  have hg2 : G.length ≤ G'.length := by simp at hg; omega
  simp (disch := first | omega | (simp only [go_sem]; first | done | omega)) only [go_sem]
  exact Ret.same hg2 (hk _ _ hN')
theorem rstep2_a {G : Hp} {c0 : Nat} {S : Nat → Option AObj} {cc pp : Int} {nd : Nd} {s : Nr} (x : Stp) (k2 : x.kind = 2) (hN : NodeR c0 S cc pp nd s G) (hn : x.count ≤ 1000000) (h1 : nd.l.length ≤ 100000) (h2 : nd.out.length ≤ 100000000)
    (hk : ∀ G' s', NodeR c0 S cc pp (sendF x.count nd) s' G' → K (.c (.int .i64 0)) G') : ACalls Tryz.prog 116 [.c (.ptr (some (c0, 0, 0))), .agg (encStp x)] G K := by
  have hc := hN.hc
  have hcl := getElem?_lt hc
  unfold nodeRO at hc
  obtain ⟨inv, hinv⟩ : ∃ inv : Nr × Hp × Int × List Hd × List Pk × List Hd → Prop, inv = fun q => NodeR c0 S cc pp { nd with l := q.2.2.2.1 ++ q.2.2.2.2.2, out := nd.out ++ q.2.2.2.2.1 } q.1 q.2.1 ∧ Snd nd x.count q.2.2.1 q.2.2.2.1 q.2.2.2.2.1 q.2.2.2.2.2 ∧ q.2.2.2.1.length + q.2.2.2.2.2.length = nd.l.length ∧ q.2.2.2.2.1.length ≤ q.2.2.2.1.length ∧ G.length + 1 ≤ q.2.1.length ∧ q.2.2.1 ≤ 1000000 := ⟨_, rfl⟩
  refine acalls Tryz.func116 rfl (by kernel_rfl) (by simp (disch := first | omega | (simp only [go_sem]; first | done | omega)) only [go_sem]) (fun hH => ?_)
  simp (disch := first | omega | (simp only [go_sem]; first | done | omega)) only [go_sem, decide_eq_false (show ¬ x.kind = 1 by omega), decide_eq_true k2, hc, hcl]
  refine AWp.loop (G.length + 1) [0, 42] [5, 43] (fun (q : Nr × Hp × Int × List Hd × List Pk × List Hd) => inv q) (fun (q : Nr × Hp × Int × List Hd × List Pk × List Hd) => [(5, (.c (.int .i64 (q.2.2.1)))), (43, (.c (.int .i64 (q.2.2.2.1.length))))]) (fun (q : Nr × Hp × Int × List Hd × List Pk × List Hd) => q.2.1) (fun (q : Nr × Hp × Int × List Hd × List Pk × List Hd) => q.2.2.2.2.2.length) (by kernel_rfl) (fun _ => rfl) (by kernel_rfl) (by first | (simp; done) | omega) (by first | (simp; done) | (simp; omega) | omega) (by (try simp only [List.forall_mem_cons, List.not_mem_nil, false_implies, implies_true, and_true]); (try simp (disch := first | omega | (simp only [go_sem]; first | done | omega)) only [go_sem]); all_goals first | trivial | (simp [AV.ok, AV.ok1, AC.ok]; done) | (simp [AV.ok, AV.ok1, AC.ok]; omega) | (simp [AV.ok, AV.ok1, AC.ok]; assumption) | ((repeat' apply And.intro) <;> first | trivial | (simp [AV.ok, AV.ok1, AC.ok]; done) | (simp [AV.ok, AV.ok1, AC.ok]; omega) | (simp [AV.ok, AV.ok1, AC.ok]; assumption) | (refine grV_ok ?_ _; first | (simp; done) | (simp; omega) | omega))) ?_ (fun q hq hm _ => ?_)
  · refine Next.mk (s, G ++ [.row 100 7 [encStp x] true], x.count, [], [], nd.l) (by rw [hinv]; exact ⟨by simpa using hN.app _, snd_0 nd _, by simp, by simp, by simp, hn⟩) ?_
    (try simp (disch := first | omega | (simp only [go_sem]; first | done | omega)) only [go_sem]); (first | refine WkL.eq ?_ ?_ | refine WkL.rest (by assumption) ?_ ?_ ?_ | refine WkL.keepL (by assumption) rfl ?_ ?_ ?_ ?_) <;> first | rfl | (simp; done) | (simp; omega) | (simp only [List.cons.injEq, AV.c.injEq, AC.int.injEq, AC.bool.injEq, AC.str.injEq, and_true, true_and, Int.natCast_add, Int.natCast_one, Int.cast_ofNat_Int]; omega) | (simp [AV.ok, AV.ok1, AC.ok]; done) | (simp [AV.ok, AV.ok1, AC.ok]; omega) | (simp only [List.forall_mem_cons, List.not_mem_nil, false_implies, implies_true, and_true]; (repeat' apply And.intro) <;> first | exact okN_map (fun x => by simp [go_sem, AC.pure]) | exact okN_grO (fun x => by simp [go_sem, AC.pure]) | (simp [AObj.okN, AC.ok]; done) | (simp [AObj.okN, AC.ok]; omega)) | (simp [*]; done) | grind
  obtain ⟨s', G', c', l1, o1, t⟩ := q
  rw [hinv] at hq
  obtain ⟨hN', q1, q2, q3, q4, q5⟩ := hq
  dsimp only at hN' q1 q2 q3 q4 q5 hm ⊢
  cases t with
  | nil =>
    have qe : l1.length = nd.l.length := by simpa using q2
    simp (disch := first | omega | (simp only [go_sem]; first | done | omega)) only [go_sem, qe]
    rw [List.append_nil] at hN'
    refine Ret.same (by omega) (hk _ s' ?_)
    rw [← snd_e q1]
    exact hN'.ev _
  | cons z t =>
    obtain ⟨L, hL⟩ : ∃ L, L = l1 ++ z :: t := ⟨_, rfl⟩
    rw [← hL] at hN'
    have hLk : l1.length < L.length := by rw [hL]; simp
    have hLx : L[l1.length] = z := by subst hL; simp
    have hLn : L.length = nd.l.length := by rw [hL]; simpa using q2
    have hLe : L ≠ [] := by intro h; rw [h] at hLk; simp at hLk
    have hc3 := hN'.hc
    unfold nodeRO at hc3
    dsimp only at hc3
    rw [hdV_pos _ _ hLe] at hc3
    have hcl3 := getElem?_lt hc3
    have hl3 := hN'.hl
    dsimp only at hl3
    rw [kdO_pos _ hLe] at hl3
    have hll3 := getElem?_lt hl3
    by_cases hy : 0 < c' ∧ z.sent = false
    · have hs2 : L[l1.length].sent = false := by rw [hLx]; exact hy.2
      obtain ⟨d1, d3, d5⟩ : s'.l ≠ c0 ∧ s'.o ≠ c0 ∧ s'.l ≠ s'.o := by
        have ne := hN'.ne
        simp only [List.nodup_cons, List.mem_cons, List.not_mem_nil, or_false, not_or, List.nodup_nil, and_true, not_false_eq_true] at ne
        omega
      have ho := hN'.ho
      dsimp only at ho
      have hol := getElem?_lt ho
      obtain ⟨o2, ho2⟩ : ∃ o2, o2 = (nd.out ++ o1) ++ [z.p] := ⟨_, rfl⟩
      have hob : (nd.out ++ o1).length ≤ 1000000000 := by rw [List.length_append]; simp only [List.length_append, List.length_cons, List.length_nil] at q2; omega
      obtain ⟨L2, hL2⟩ : ∃ L2, L2 = L.set l1.length ⟨z.p, true⟩ := ⟨_, rfl⟩
      have hL2l : L2.length = L.length := by rw [hL2, List.length_set]
      have hL2e : L2 ≠ [] := by intro h; rw [h] at hL2l; simp at hL2l; omega
      have hL2t : L2 = (l1 ++ [⟨z.p, true⟩]) ++ t := by rw [hL2, hL, List.set_append_right _ _ (Nat.le_refl _), Nat.sub_self, List.set_cons_zero, List.append_assoc]; rfl
      have hro : AObj.row 120 6 ((L.map encHd).set l1.length [.int .i64 z.p.n, .str z.p.tag, .int .i64 z.p.s.t, .int .i64 z.p.s.v, .int .i64 z.p.s.q, .bool true]) true = kdO s'.b L2 := by rw [kdO_pos _ hL2e, hL2, List.map_set]; rfl
      have fin : ∀ G2 s2, NodeR c0 S cc pp { nd with l := L2, out := o2 } s2 G2 → G.length + 1 ≤ G2.length → inv (s2, G2, c' - 1, l1 ++ [⟨z.p, true⟩], o1 ++ [z.p], t) := by
        intro G2 s2 g1 g2
        rw [hinv]
        refine ⟨?_, snd_y q1 hy, ?_, ?_, g2, by dsimp only; omega⟩
        · dsimp only
          rw [← hL2t, ← List.append_assoc, ← ho2]
          exact g1
        · simp only [List.length_append, List.length_cons, List.length_nil] at q2 ⊢; omega
        · simp only [List.length_append, List.length_cons, List.length_nil]; omega
      simp (disch := first | omega | (simp only [go_sem]; first | done | omega)) only [go_sem, hc3, hcl3, hl3, hll3, hs2, hy.1]
      repeat' (first | ((first | refine acond_d ?_ ?_ | refine acond_b ?_ ?_ | refine ag_d ?_ ?_ | refine ag_n ?_ ?_ | refine ag_bt ?_ ?_ | refine ag_bf ?_ ?_ | refine agt_d ?_ ?_ | refine agt_n ?_ ?_ | refine agt_bt ?_ ?_ | refine agt_bf ?_ ?_) <;> intro c <;> try simp (disch := first | omega | (simp only [go_sem]; first | done | omega)) only [go_sem, c, hc3, hcl3, hl3, hll3, hs2, hy.1, hol, hLx]) | ((first | refine w_draw (by kernel_rfl) (by decide +kernel) ?_ | refine appPk (nd.out ++ o1) z.p o2 ho2 (get_s1 ho d5) (at0 (by simp)) hob ?_ | refine w_tree (.one 0 (.one 1 (.one 2 (.one 3 (.one 4 (.one 5 (.one 6 (.one 7 (.one 8 (.one 9 (.one 10 (.one 11 (.one 12 (.one 13 (.one 14 (.one 15 (.one 16 (.one 17 .done)))))))))))))))))) (by kernel_rfl) (by decide +kernel) ?_) <;> try simp (disch := first | omega | (simp only [go_sem]; first | done | omega)) only [go_sem, hc3, hcl3, hl3, hll3, hs2, hy.1, hol, hLx]) | (refine And.intro ?_ ?_ <;> try simp (disch := first | omega | (simp only [go_sem]; first | done | omega)) only [go_sem, hc3, hcl3, hl3, hll3, hs2, hy.1, hol, hLx]))
      all_goals
        refine Next.mk ({ s' with o := G'.length + 1 }, _, c' - 1, l1 ++ [⟨z.p, true⟩], o1 ++ [z.p], t) ⟨fin _ _ ⟨?_, ?_, ?_, ?_, ?_, ?_, ?_, ?_⟩ ?_, by simp⟩ (by dsimp only; rw [List.length_append, List.length_singleton]; exact WkL.eq (by simp; omega) rfl)
        rotate_left 8
        · simp; omega
        all_goals
          obtain ⟨pre, hc, hl, ho, hd, hr, hw, ne⟩ := hN'
          simp only [List.nodup_cons, List.mem_cons, List.not_mem_nil, or_false, not_or, List.nodup_nil, and_true, not_false_eq_true] at ne
          have hcl := getElem?_lt hc
          have hll := getElem?_lt hl
          have hdl := getElem?_lt hd
          have hrl := getElem?_lt hr
          have hwl := getElem?_lt hw
        rotate_left 1
        · unfold nodeRO
          dsimp only
          rw [hdV_pos _ _ hL2e, hL2l]
          (first | (simp only [List.nodup_cons, List.mem_cons, List.not_mem_nil, or_false, not_or, List.nodup_nil, and_true, not_false_eq_true]; (try dsimp only); (repeat' apply And.intro) <;> omega) | (intro q o hq; obtain ⟨g1, g2⟩ := pre q o hq; have g3 := getElem?_lt g1; simp only [List.mem_cons, List.not_mem_nil, or_false, not_or] at g2 ⊢; refine ⟨?_, by (try dsimp only); omega⟩; (try rw [List.getElem?_append_left (by (try simp only [List.length_set]); omega)]); (repeat rw [List.getElem?_set_ne (by omega)]); exact g1) | ((try dsimp only); (try rw [List.getElem?_append_left (by (try simp only [List.length_set]); omega)]); (repeat rw [List.getElem?_set_ne (by omega)]); first | assumption | (rw [List.getElem?_set_self (by (try simp only [List.length_set]); omega)]; done) | (rw [List.getElem?_set_self (by (try simp only [List.length_set]); omega)]; rfl) | (rw [List.getElem?_set_self (by (try simp only [List.length_set]); omega)]; simp [nodeO, hdV, hdO, *]; done)) | ((try dsimp only); rw [List.getElem?_append_right (by (try simp only [List.length_set]); omega)]; (try simp only [List.length_set, Nat.add_sub_cancel_left, Nat.sub_self]); rfl))
        · dsimp only
          rw [← hro]
          (first | (simp only [List.nodup_cons, List.mem_cons, List.not_mem_nil, or_false, not_or, List.nodup_nil, and_true, not_false_eq_true]; (try dsimp only); (repeat' apply And.intro) <;> omega) | (intro q o hq; obtain ⟨g1, g2⟩ := pre q o hq; have g3 := getElem?_lt g1; simp only [List.mem_cons, List.not_mem_nil, or_false, not_or] at g2 ⊢; refine ⟨?_, by (try dsimp only); omega⟩; (try rw [List.getElem?_append_left (by (try simp only [List.length_set]); omega)]); (repeat rw [List.getElem?_set_ne (by omega)]); exact g1) | ((try dsimp only); (try rw [List.getElem?_append_left (by (try simp only [List.length_set]); omega)]); (repeat rw [List.getElem?_set_ne (by omega)]); first | assumption | (rw [List.getElem?_set_self (by (try simp only [List.length_set]); omega)]; done) | (rw [List.getElem?_set_self (by (try simp only [List.length_set]); omega)]; rfl) | (rw [List.getElem?_set_self (by (try simp only [List.length_set]); omega)]; simp [nodeO, hdV, hdO, *]; done)) | ((try dsimp only); rw [List.getElem?_append_right (by (try simp only [List.length_set]); omega)]; (try simp only [List.length_set, Nat.add_sub_cancel_left, Nat.sub_self]); rfl))
        all_goals (first | (simp only [List.nodup_cons, List.mem_cons, List.not_mem_nil, or_false, not_or, List.nodup_nil, and_true, not_false_eq_true]; (try dsimp only); (repeat' apply And.intro) <;> omega) | (intro q o hq; obtain ⟨g1, g2⟩ := pre q o hq; have g3 := getElem?_lt g1; simp only [List.mem_cons, List.not_mem_nil, or_false, not_or] at g2 ⊢; refine ⟨?_, by (try dsimp only); omega⟩; (try rw [List.getElem?_append_left (by (try simp only [List.length_set]); omega)]); (repeat rw [List.getElem?_set_ne (by omega)]); exact g1) | ((try dsimp only); (try rw [List.getElem?_append_left (by (try simp only [List.length_set]); omega)]); (repeat rw [List.getElem?_set_ne (by omega)]); first | assumption | (rw [List.getElem?_set_self (by (try simp only [List.length_set]); omega)]; done) | (rw [List.getElem?_set_self (by (try simp only [List.length_set]); omega)]; rfl) | (rw [List.getElem?_set_self (by (try simp only [List.length_set]); omega)]; simp [nodeO, hdV, hdO, *]; done)) | ((try dsimp only); rw [List.getElem?_append_right (by (try simp only [List.length_set]); omega)]; (try simp only [List.length_set, Nat.add_sub_cancel_left, Nat.sub_self]); rfl))
    · have hy1 : 0 < c' → z.sent = true := fun h => by cases hs : z.sent with | true => rfl | false => exact absurd ⟨h, hs⟩ hy
      have fin2 : inv (s', G', c', l1 ++ [z], o1, t) := by
        rw [hinv]
        exact ⟨by dsimp only; rw [List.append_assoc, List.singleton_append, ← hL]; exact hN', snd_n q1 hy, by simp only [List.length_append, List.length_cons, List.length_nil] at q2 ⊢; omega, by simp only [List.length_append, List.length_cons, List.length_nil]; omega, q4, q5⟩
      by_cases hc0 : 0 < c'
      · have hst : L[l1.length].sent = true := by rw [hLx]; exact hy1 hc0
        simp (disch := first | omega | (simp only [go_sem]; first | done | omega)) only [go_sem, hc3, hcl3, hl3, hll3, hst, hc0]
        refine Next.mk (s', G', c', l1 ++ [z], o1, t) ⟨fin2, by simp⟩ ?_
        dsimp only
        rw [List.length_append, List.length_singleton]
        (try simp (disch := first | omega | (simp only [go_sem]; first | done | omega)) only [go_sem]); (first | refine WkL.eq ?_ ?_ | refine WkL.rest (by assumption) ?_ ?_ ?_ | refine WkL.keepL (by assumption) rfl ?_ ?_ ?_ ?_) <;> first | rfl | (simp; done) | (simp; omega) | (simp only [List.cons.injEq, AV.c.injEq, AC.int.injEq, AC.bool.injEq, AC.str.injEq, and_true, true_and, Int.natCast_add, Int.natCast_one, Int.cast_ofNat_Int]; omega) | (simp [AV.ok, AV.ok1, AC.ok]; done) | (simp [AV.ok, AV.ok1, AC.ok]; omega) | (simp only [List.forall_mem_cons, List.not_mem_nil, false_implies, implies_true, and_true]; (repeat' apply And.intro) <;> first | exact okN_map (fun x => by simp [go_sem, AC.pure]) | exact okN_grO (fun x => by simp [go_sem, AC.pure]) | (simp [AObj.okN, AC.ok]; done) | (simp [AObj.okN, AC.ok]; omega)) | (simp [*]; done) | grind
      · simp (disch := first | omega | (simp only [go_sem]; first | done | omega)) only [go_sem, hc3, hcl3, hl3, hll3, hc0]
        refine Next.mk (s', G', c', l1 ++ [z], o1, t) ⟨fin2, by simp⟩ ?_
        dsimp only
        rw [List.length_append, List.length_singleton]
        (try simp (disch := first | omega | (simp only [go_sem]; first | done | omega)) only [go_sem]); (first | refine WkL.eq ?_ ?_ | refine WkL.rest (by assumption) ?_ ?_ ?_ | refine WkL.keepL (by assumption) rfl ?_ ?_ ?_ ?_) <;> first | rfl | (simp; done) | (simp; omega) | (simp only [List.cons.injEq, AV.c.injEq, AC.int.injEq, AC.bool.injEq, AC.str.injEq, and_true, true_and, Int.natCast_add, Int.natCast_one, Int.cast_ofNat_Int]; omega) | (simp [AV.ok, AV.ok1, AC.ok]; done) | (simp [AV.ok, AV.ok1, AC.ok]; omega) | (simp only [List.forall_mem_cons, List.not_mem_nil, false_implies, implies_true, and_true]; (repeat' apply And.intro) <;> first | exact okN_map (fun x => by simp [go_sem, AC.pure]) | exact okN_grO (fun x => by simp [go_sem, AC.pure]) | (simp [AObj.okN, AC.ok]; done) | (simp [AObj.okN, AC.ok]; omega)) | (simp [*]; done) | grind
theorem rstep3_a {G : Hp} {c0 : Nat} {S : Nat → Option AObj} {cc pp : Int} {nd : Nd} {s : Nr} (x : Stp) (k3 : x.kind = 3) (hN : NodeR c0 S cc pp nd s G) (hev : ∀ z, z ∈ nd.ever ↔ ∃ q ∈ nd.out, q.n = z) (h1 : nd.l.length ≤ 100000) (h2 : nd.out.length ≤ 100000000)
    (hk1 : ackE x.seq nd ≠ 0 → ∀ G' s', NodeR c0 S cc pp nd s' G' → K (.c (.int .i64 (ackE x.seq nd))) G') (hk2 : ackE x.seq nd = 0 → ∀ G' s', NodeR c0 S cc pp { nd with acked := x.seq, l := nd.l.filter (fun y => decide (x.seq < y.p.n)) } s' G' → K (.c (.int .i64 0)) G') : ACalls Tryz.prog 116 [.c (.ptr (some (c0, 0, 0))), .agg (encStp x)] G K := by
  have hc := hN.hc
  have hcl := getElem?_lt hc
  unfold nodeRO at hc
  have ho := hN.ho
  have hol := getElem?_lt ho
  have hany : nd.out.any (fun q => decide (q.n = x.seq)) = decide (x.seq ∈ nd.ever) := by
    rw [Bool.eq_iff_iff, List.any_eq_true, decide_eq_true_eq, hev]
    simp
  have g1 : ¬ x.kind = 1 := by omega
  have g2 : ¬ x.kind = 2 := by omega
  by_cases c1 : x.seq ≠ 0 ∧ ¬ x.seq ∈ nd.ever
  · have e : ackE x.seq nd = 8 := by unfold ackE; rw [if_pos c1]
    rw [e] at hk1
    refine acalls Tryz.func116 rfl (by kernel_rfl) (by simp (disch := first | omega | (simp only [go_sem]; first | done | omega)) only [go_sem]) (fun hH => ?_)
    simp (disch := first | omega | (simp only [go_sem]; first | done | omega)) only [go_sem, decide_eq_false g1, decide_eq_false g2, decide_eq_true k3, hc, hcl, c1.1]
    refine containsPq_a 144 [(G.length, 0, 0)] (fun q => decide (q.n = x.seq)) (by kernel_rfl) (capR (by simp)) nd.out (get_old ho _) (fun y K _ hK => rs1_a y x (by first | exact at0 (by simp) | exact at1 (by simp) | exact at2 (by simp) | exact at3 (by simp) | exact at4 (by simp) | exact at5 (by simp) | exact atG 6 (by simp) rfl | exact atG 7 (by simp) rfl | exact atG 8 (by simp) rfl | exact atG 9 (by simp) rfl | exact atG 10 (by simp) rfl | exact atG 11 (by simp) rfl | exact atG 12 (by simp) rfl | exact atG 13 (by simp) rfl | exact atG 14 (by simp) rfl | exact atG 15 (by simp) rfl | assumption) hK) (by omega) ?_
    rw [hany]
    simp (disch := first | omega | (simp only [go_sem]; first | done | omega)) only [go_sem, c1.2]
    exact Ret.same (by simp) (hk1 (by decide) _ _ (hN.app _))
  have hin : x.seq ≠ 0 → x.seq ∈ nd.ever := fun h => Classical.not_not.1 (fun h2 => c1 ⟨h, h2⟩)
  have d1 : s.l ≠ c0 := by
    have ne := hN.ne
    simp only [List.nodup_cons, List.mem_cons, List.not_mem_nil, or_false, not_or, List.nodup_nil, and_true, not_false_eq_true] at ne
    omega
  by_cases c2 : x.seq < nd.acked
  · have e : ackE x.seq nd = 7 := by unfold ackE; rw [if_neg c1, if_pos c2]
    rw [e] at hk1
    refine acalls Tryz.func116 rfl (by kernel_rfl) (by simp (disch := first | omega | (simp only [go_sem]; first | done | omega)) only [go_sem]) (fun hH => ?_)
    simp (disch := first | omega | (simp only [go_sem]; first | done | omega)) only [go_sem, decide_eq_false g1, decide_eq_false g2, decide_eq_true k3, hc, hcl]
    repeat' (first | ((first | refine acond_d ?_ ?_ | refine acond_b ?_ ?_ | refine ag_d ?_ ?_ | refine ag_n ?_ ?_ | refine ag_bt ?_ ?_ | refine ag_bf ?_ ?_ | refine agt_d ?_ ?_ | refine agt_n ?_ ?_ | refine agt_bt ?_ ?_ | refine agt_bf ?_ ?_) <;> intro c <;> try simp (disch := first | omega | (simp only [go_sem]; first | done | omega)) only [go_sem, c, hc, hcl, hany, c2]) | ((first | refine w_draw (by kernel_rfl) (by decide +kernel) ?_ | refine containsPq_a 144 [(G.length, 0, 0)] (fun q => decide (q.n = x.seq)) (by kernel_rfl) (capR (by simp)) nd.out (get_old ho _) (fun y K _ hK => rs1_a y x (by first | exact at0 (by simp) | exact at1 (by simp) | exact at2 (by simp) | exact at3 (by simp) | exact at4 (by simp) | exact at5 (by simp) | exact atG 6 (by simp) rfl | exact atG 7 (by simp) rfl | exact atG 8 (by simp) rfl | exact atG 9 (by simp) rfl | exact atG 10 (by simp) rfl | exact atG 11 (by simp) rfl | exact atG 12 (by simp) rfl | exact atG 13 (by simp) rfl | exact atG 14 (by simp) rfl | exact atG 15 (by simp) rfl | assumption) hK) (by omega) ?_ | refine w_tree (.one 0 (.one 1 (.one 2 (.one 3 (.one 4 (.one 5 (.one 6 (.one 7 .done)))))))) (by kernel_rfl) (by decide +kernel) ?_) <;> try simp (disch := first | omega | (simp only [go_sem]; first | done | omega)) only [go_sem, hc, hcl, hany, c2]) | (refine And.intro ?_ ?_ <;> try simp (disch := first | omega | (simp only [go_sem]; first | done | omega)) only [go_sem, hc, hcl, hany, c2]))
    all_goals first
      | exact Ret.same (by simp) (hk1 (by decide) _ _ (hN.app _))
      | exact absurd (hin (by assumption)) (by assumption)
      | (rename_i c; rw [← c]; exact Ret.same (by simp) (hk1 (by decide) _ _ (hN.app _)))
  · have e : ackE x.seq nd = 0 := by unfold ackE; rw [if_neg c1, if_neg c2]
    have hk2 := hk2 e
    clear hk1
    have hl := hN.hl
    have hll := getElem?_lt hl
    have hfe : (fun y : Hd => decide (x.seq < y.p.n)) = (fun y : Hd => !(decide (y.p.n ≤ x.seq))) := by
      funext y
      rw [← decide_not]
      exact decide_eq_decide.2 (by omega)
    rw [hfe] at hk2
    by_cases c4 : x.seq = 0
    · refine acalls Tryz.func116 rfl (by kernel_rfl) (by simp (disch := first | omega | (simp only [go_sem]; first | done | omega)) only [go_sem]) (fun hH => ?_)
      simp (disch := first | omega | (simp only [go_sem]; first | done | omega)) only [go_sem, decide_eq_false g1, decide_eq_false g2, decide_eq_true k3, hc, hcl, decide_eq_true c4]
      repeat' (first | ((first | refine acond_d ?_ ?_ | refine acond_b ?_ ?_ | refine ag_d ?_ ?_ | refine ag_n ?_ ?_ | refine ag_bt ?_ ?_ | refine ag_bf ?_ ?_ | refine agt_d ?_ ?_ | refine agt_n ?_ ?_ | refine agt_bt ?_ ?_ | refine agt_bf ?_ ?_) <;> intro c <;> try simp (disch := first | omega | (simp only [go_sem]; first | done | omega)) only [go_sem, c, hc, hcl, hll, c2]) | ((first | refine w_draw (by kernel_rfl) (by decide +kernel) ?_ | refine kclV_a nd.l (get_s1 hl (by omega)) (by omega) ?_ | refine delKpV_a _ _ (fun y => decide (y.p.n ≤ x.seq)) (by kernel_rfl) ?_ ?_ nd.l (by first | exact at0 (by simp) | exact at1 (by simp) | exact at2 (by simp) | exact at3 (by simp) | exact at4 (by simp) | exact at5 (by simp) | exact atG 6 (by simp) rfl | exact atG 7 (by simp) rfl | exact atG 8 (by simp) rfl | exact atG 9 (by simp) rfl | exact atG 10 (by simp) rfl | exact atG 11 (by simp) rfl | exact atG 12 (by simp) rfl | exact atG 13 (by simp) rfl | exact atG 14 (by simp) rfl | exact atG 15 (by simp) rfl | assumption) ?_ (by omega) (fun b' => ?_) | refine w_tree (.one 0 (.one 1 (.one 2 (.one 3 (.one 4 (.one 5 (.one 6 (.one 7 .done)))))))) (by kernel_rfl) (by decide +kernel) ?_) <;> try simp (disch := first | omega | (simp only [go_sem]; first | done | omega)) only [go_sem, hc, hcl, hll, c2]) | (refine And.intro ?_ ?_ <;> try simp (disch := first | omega | (simp only [go_sem]; first | done | omega)) only [go_sem, hc, hcl, hll, c2]))
      all_goals first
        | (intro a b d hm9; simp at hm9; omega)
        | (intro G1 y K1 hG1 hx9 hK1; exact rs2_a y x ((hG1 _ _ _ (List.Mem.head _)).trans (by rw [List.getElem?_append_right (by simp), List.length_set, Nat.sub_self]; rfl)) hK1)
        | (refine Ret.same (by simp) (hk2 _ { s with b := b', l := G.length + 1 } ⟨?_, ?_, ?_, ?_, ?_, ?_, ?_, ?_⟩) <;> (obtain ⟨pre, hc, hl, ho, hd, hr, hw, ne⟩ := hN; simp only [List.nodup_cons, List.mem_cons, List.not_mem_nil, or_false, not_or, List.nodup_nil, and_true, not_false_eq_true] at ne; have hdl := getElem?_lt hd; have hrl := getElem?_lt hr; have hwl := getElem?_lt hw; (first | (simp only [List.nodup_cons, List.mem_cons, List.not_mem_nil, or_false, not_or, List.nodup_nil, and_true, not_false_eq_true]; (try dsimp only); (repeat' apply And.intro) <;> omega) | (intro q o hq; obtain ⟨g1, g2⟩ := pre q o hq; have g3 := getElem?_lt g1; simp only [List.mem_cons, List.not_mem_nil, or_false, not_or] at g2 ⊢; refine ⟨?_, by (try dsimp only); omega⟩; (try rw [List.getElem?_append_left (by (try simp only [List.length_set]); omega)]); (repeat rw [List.getElem?_set_ne (by omega)]); exact g1) | ((try dsimp only); (try rw [List.getElem?_append_left (by (try simp only [List.length_set]); omega)]); (repeat rw [List.getElem?_set_ne (by omega)]); first | assumption | (rw [List.getElem?_set_self (by (try simp only [List.length_set]); omega)]; done) | (rw [List.getElem?_set_self (by (try simp only [List.length_set]); omega)]; rfl) | (rw [List.getElem?_set_self (by (try simp only [List.length_set]); omega)]; simp [nodeO, hdV, hdO, *]; done)) | ((try dsimp only); rw [List.getElem?_append_right (by (try simp only [List.length_set]); omega)]; (try simp only [List.length_set, Nat.add_sub_cancel_left, Nat.sub_self]); rfl))))
    · have c5 := hin c4
      refine acalls Tryz.func116 rfl (by kernel_rfl) (by simp (disch := first | omega | (simp only [go_sem]; first | done | omega)) only [go_sem]) (fun hH => ?_)
      simp (disch := first | omega | (simp only [go_sem]; first | done | omega)) only [go_sem, decide_eq_false g1, decide_eq_false g2, decide_eq_true k3, hc, hcl, decide_eq_false c4]
      refine containsPq_a 144 [(G.length, 0, 0)] (fun q => decide (q.n = x.seq)) (by kernel_rfl) (capR (by simp)) nd.out (get_old ho _) (fun y K _ hK => rs1_a y x (by first | exact at0 (by simp) | exact at1 (by simp) | exact at2 (by simp) | exact at3 (by simp) | exact at4 (by simp) | exact at5 (by simp) | exact atG 6 (by simp) rfl | exact atG 7 (by simp) rfl | exact atG 8 (by simp) rfl | exact atG 9 (by simp) rfl | exact atG 10 (by simp) rfl | exact atG 11 (by simp) rfl | exact atG 12 (by simp) rfl | exact atG 13 (by simp) rfl | exact atG 14 (by simp) rfl | exact atG 15 (by simp) rfl | assumption) hK) (by omega) ?_
      rw [hany]
      simp (disch := first | omega | (simp only [go_sem]; first | done | omega)) only [go_sem, c5]
      repeat' (first | ((first | refine acond_d ?_ ?_ | refine acond_b ?_ ?_ | refine ag_d ?_ ?_ | refine ag_n ?_ ?_ | refine ag_bt ?_ ?_ | refine ag_bf ?_ ?_ | refine agt_d ?_ ?_ | refine agt_n ?_ ?_ | refine agt_bt ?_ ?_ | refine agt_bf ?_ ?_) <;> intro c <;> try simp (disch := first | omega | (simp only [go_sem]; first | done | omega)) only [go_sem, c, hc, hcl, hll, c2]) | ((first | refine w_draw (by kernel_rfl) (by decide +kernel) ?_ | refine kclV_a nd.l (get_s1 hl (by omega)) (by omega) ?_ | refine delKpV_a _ _ (fun y => decide (y.p.n ≤ x.seq)) (by kernel_rfl) ?_ ?_ nd.l (by first | exact at0 (by simp) | exact at1 (by simp) | exact at2 (by simp) | exact at3 (by simp) | exact at4 (by simp) | exact at5 (by simp) | exact atG 6 (by simp) rfl | exact atG 7 (by simp) rfl | exact atG 8 (by simp) rfl | exact atG 9 (by simp) rfl | exact atG 10 (by simp) rfl | exact atG 11 (by simp) rfl | exact atG 12 (by simp) rfl | exact atG 13 (by simp) rfl | exact atG 14 (by simp) rfl | exact atG 15 (by simp) rfl | assumption) ?_ (by omega) (fun b' => ?_) | refine w_tree (.one 0 (.one 1 (.one 2 (.one 3 (.one 4 (.one 5 (.one 6 (.one 7 .done)))))))) (by kernel_rfl) (by decide +kernel) ?_) <;> try simp (disch := first | omega | (simp only [go_sem]; first | done | omega)) only [go_sem, hc, hcl, hll, c2]) | (refine And.intro ?_ ?_ <;> try simp (disch := first | omega | (simp only [go_sem]; first | done | omega)) only [go_sem, hc, hcl, hll, c2]))
      all_goals first
        | (intro a b d hm9; simp at hm9; omega)
        | (intro G1 y K1 hG1 hx9 hK1; exact rs2_a y x ((hG1 _ _ _ (List.Mem.head _)).trans (by rw [List.getElem?_append_right (by simp), List.length_set, Nat.sub_self]; rfl)) hK1)
        | (refine Ret.same (by simp) (hk2 _ { s with b := b', l := G.length + 1 } ⟨?_, ?_, ?_, ?_, ?_, ?_, ?_, ?_⟩) <;> (obtain ⟨pre, hc, hl, ho, hd, hr, hw, ne⟩ := hN; simp only [List.nodup_cons, List.mem_cons, List.not_mem_nil, or_false, not_or, List.nodup_nil, and_true, not_false_eq_true] at ne; have hdl := getElem?_lt hd; have hrl := getElem?_lt hr; have hwl := getElem?_lt hw; (first | (simp only [List.nodup_cons, List.mem_cons, List.not_mem_nil, or_false, not_or, List.nodup_nil, and_true, not_false_eq_true]; (try dsimp only); (repeat' apply And.intro) <;> omega) | (intro q o hq; obtain ⟨g1, g2⟩ := pre q o hq; have g3 := getElem?_lt g1; simp only [List.mem_cons, List.not_mem_nil, or_false, not_or] at g2 ⊢; refine ⟨?_, by (try dsimp only); omega⟩; (try rw [List.getElem?_append_left (by (try simp only [List.length_set]); omega)]); (repeat rw [List.getElem?_set_ne (by omega)]); exact g1) | ((try dsimp only); (try rw [List.getElem?_append_left (by (try simp only [List.length_set]); omega)]); (repeat rw [List.getElem?_set_ne (by omega)]); first | assumption | (rw [List.getElem?_set_self (by (try simp only [List.length_set]); omega)]; done) | (rw [List.getElem?_set_self (by (try simp only [List.length_set]); omega)]; rfl) | (rw [List.getElem?_set_self (by (try simp only [List.length_set]); omega)]; simp [nodeO, hdV, hdO, *]; done)) | ((try dsimp only); rw [List.getElem?_append_right (by (try simp only [List.length_set]); omega)]; (try simp only [List.length_set, Nat.add_sub_cancel_left, Nat.sub_self]); rfl))))
theorem rstep4_a {G : Hp} {c0 : Nat} {S : Nat → Option AObj} {cc pp : Int} {nd : Nd} {s : Nr} (x : Stp) (k1 : x.kind ≠ 1) (k2 : x.kind ≠ 2) (k3 : x.kind ≠ 3) (hN : NodeR c0 S cc pp nd s G) (h1 : nd.l.length ≤ 100000)
    (hk : ∀ G' s', NodeR c0 S cc pp (resetF nd) s' G' → K (.c (.int .i64 0)) G') : ACalls Tryz.prog 116 [.c (.ptr (some (c0, 0, 0))), .agg (encStp x)] G K := by
  have hc := hN.hc
  have hcl := getElem?_lt hc
  unfold nodeRO at hc
  obtain ⟨inv, hinv⟩ : ∃ inv : Hp × Nat → Prop, inv = fun q => NodeR c0 S cc pp { nd with l := rstL nd.l q.2 } s q.1 ∧ q.2 ≤ nd.l.length ∧ G.length + 1 ≤ q.1.length := ⟨_, rfl⟩
  refine acalls Tryz.func116 rfl (by kernel_rfl) (by simp (disch := first | omega | (simp only [go_sem]; first | done | omega)) only [go_sem]) (fun hH => ?_)
  simp (disch := first | omega | (simp only [go_sem]; first | done | omega)) only [go_sem, decide_eq_false k1, decide_eq_false k2, decide_eq_false k3, hc, hcl]
  refine AWp.loop (G.length + 1) [0, 14] [15] (fun (q : Hp × Nat) => inv q) (fun (q : Hp × Nat) => [(15, (.c (.int .i64 (q.2))))]) (fun (q : Hp × Nat) => q.1) (fun (q : Hp × Nat) => nd.l.length - q.2) (by kernel_rfl) (fun _ => rfl) (by kernel_rfl) (by first | (simp; done) | omega) (by first | (simp; done) | (simp; omega) | omega) (by (try simp only [List.forall_mem_cons, List.not_mem_nil, false_implies, implies_true, and_true]); (try simp (disch := first | omega | (simp only [go_sem]; first | done | omega)) only [go_sem]); all_goals first | trivial | (simp [AV.ok, AV.ok1, AC.ok]; done) | (simp [AV.ok, AV.ok1, AC.ok]; omega) | (simp [AV.ok, AV.ok1, AC.ok]; assumption) | ((repeat' apply And.intro) <;> first | trivial | (simp [AV.ok, AV.ok1, AC.ok]; done) | (simp [AV.ok, AV.ok1, AC.ok]; omega) | (simp [AV.ok, AV.ok1, AC.ok]; assumption) | (refine grV_ok ?_ _; first | (simp; done) | (simp; omega) | omega))) ?_ (fun q hq hm4 _ => ?_)
  · refine Next.mk (G ++ [.row 100 7 [encStp x] true], 0) (by rw [hinv]; refine ⟨?_, Nat.zero_le _, by simp⟩; dsimp only; rw [rstL_0]; exact hN.app _) ?_
    (try simp (disch := first | omega | (simp only [go_sem]; first | done | omega)) only [go_sem]); (first | refine WkL.eq ?_ ?_ | refine WkL.rest (by assumption) ?_ ?_ ?_ | refine WkL.keepL (by assumption) rfl ?_ ?_ ?_ ?_) <;> first | rfl | (simp; done) | (simp; omega) | (simp only [List.cons.injEq, AV.c.injEq, AC.int.injEq, AC.bool.injEq, AC.str.injEq, and_true, true_and, Int.natCast_add, Int.natCast_one, Int.cast_ofNat_Int]; omega) | (simp [AV.ok, AV.ok1, AC.ok]; done) | (simp [AV.ok, AV.ok1, AC.ok]; omega) | (simp only [List.forall_mem_cons, List.not_mem_nil, false_implies, implies_true, and_true]; (repeat' apply And.intro) <;> first | exact okN_map (fun x => by simp [go_sem, AC.pure]) | exact okN_grO (fun x => by simp [go_sem, AC.pure]) | (simp [AObj.okN, AC.ok]; done) | (simp [AObj.okN, AC.ok]; omega)) | (simp [*]; done) | grind
  obtain ⟨G4, j⟩ := q
  rw [hinv] at hq
  obtain ⟨hN4, q4, q5⟩ := hq
  dsimp only at hN4 q4 q5 hm4 ⊢
  by_cases hj : j < nd.l.length
  · obtain ⟨L, hL⟩ : ∃ L, L = rstL nd.l j := ⟨_, rfl⟩
    rw [← hL] at hN4
    have hLl : L.length = nd.l.length := by rw [hL, rstL_len]
    have hLj : j < L.length := by omega
    have hLe : L ≠ [] := by intro h; rw [h] at hLj; simp at hLj
    have hLg : L[j] = nd.l[j] := by subst hL; exact rstL_get nd.l j hj _
    have hLs := rstL_next nd.l j hj
    rw [← hL] at hLs
    have hc5 := hN4.hc
    have hcl5 := getElem?_lt hc5
    unfold nodeRO at hc5
    have hl := hN4.hl
    have hll := getElem?_lt hl
    dsimp only at hc5 hl
    rw [hdV_pos _ _ hLe] at hc5
    rw [kdO_pos _ hLe] at hl
    simp (disch := first | omega | (simp only [go_sem]; first | done | omega)) only [go_sem, hj, hc5, hcl5, hl, hll, hLl]
    have hne2 : rstL nd.l (j + 1) ≠ [] := by intro h; have := rstL_len nd.l (j + 1); rw [h] at this; simp at this; omega
    refine Next.mk (G4.set s.l (.row 120 6 ((rstL nd.l (j + 1)).map encHd) true), j + 1) ⟨?_, by dsimp only; omega⟩ ?_
    · rw [hinv]
      refine ⟨?_, hj, by simpa using q5⟩
      dsimp only
      obtain ⟨pre, hc, hl, ho, hd, hr, hw, ne⟩ := hN4
      simp only [List.nodup_cons, List.mem_cons, List.not_mem_nil, or_false, not_or, List.nodup_nil, and_true, not_false_eq_true] at ne
      have hol := getElem?_lt ho
      have hdl := getElem?_lt hd
      have hrl := getElem?_lt hr
      have hwl := getElem?_lt hw
      refine ⟨?_, ?_, ?_, ?_, ?_, ?_, ?_, ?_⟩
      · (first | (simp only [List.nodup_cons, List.mem_cons, List.not_mem_nil, or_false, not_or, List.nodup_nil, and_true, not_false_eq_true]; (try dsimp only); (repeat' apply And.intro) <;> omega) | (intro q o hq; obtain ⟨g1, g2⟩ := pre q o hq; have g3 := getElem?_lt g1; simp only [List.mem_cons, List.not_mem_nil, or_false, not_or] at g2 ⊢; refine ⟨?_, by (try dsimp only); omega⟩; (try rw [List.getElem?_append_left (by (try simp only [List.length_set]); omega)]); (repeat rw [List.getElem?_set_ne (by omega)]); exact g1) | ((try dsimp only); (try rw [List.getElem?_append_left (by (try simp only [List.length_set]); omega)]); (repeat rw [List.getElem?_set_ne (by omega)]); first | assumption | (rw [List.getElem?_set_self (by (try simp only [List.length_set]); omega)]; done) | (rw [List.getElem?_set_self (by (try simp only [List.length_set]); omega)]; rfl) | (rw [List.getElem?_set_self (by (try simp only [List.length_set]); omega)]; simp [nodeO, hdV, hdO, *]; done)) | ((try dsimp only); rw [List.getElem?_append_right (by (try simp only [List.length_set]); omega)]; (try simp only [List.length_set, Nat.add_sub_cancel_left, Nat.sub_self]); rfl))
      · rw [List.getElem?_set_ne (by omega), hc]
        unfold nodeRO
        dsimp only
        rw [hdV_pos _ _ hLe, hdV_pos _ _ hne2, hLl, rstL_len]
      · dsimp only
        rw [kdO_pos _ hne2, List.getElem?_set_self hll]
      all_goals (first | (simp only [List.nodup_cons, List.mem_cons, List.not_mem_nil, or_false, not_or, List.nodup_nil, and_true, not_false_eq_true]; (try dsimp only); (repeat' apply And.intro) <;> omega) | (intro q o hq; obtain ⟨g1, g2⟩ := pre q o hq; have g3 := getElem?_lt g1; simp only [List.mem_cons, List.not_mem_nil, or_false, not_or] at g2 ⊢; refine ⟨?_, by (try dsimp only); omega⟩; (try rw [List.getElem?_append_left (by (try simp only [List.length_set]); omega)]); (repeat rw [List.getElem?_set_ne (by omega)]); exact g1) | ((try dsimp only); (try rw [List.getElem?_append_left (by (try simp only [List.length_set]); omega)]); (repeat rw [List.getElem?_set_ne (by omega)]); first | assumption | (rw [List.getElem?_set_self (by (try simp only [List.length_set]); omega)]; done) | (rw [List.getElem?_set_self (by (try simp only [List.length_set]); omega)]; rfl) | (rw [List.getElem?_set_self (by (try simp only [List.length_set]); omega)]; simp [nodeO, hdV, hdO, *]; done)) | ((try dsimp only); rw [List.getElem?_append_right (by (try simp only [List.length_set]); omega)]; (try simp only [List.length_set, Nat.add_sub_cancel_left, Nat.sub_self]); rfl))
    · rw [← hLs, List.map_set]
      dsimp only
      simp only [encHd, hLg]
      (try simp (disch := first | omega | (simp only [go_sem]; first | done | omega)) only [go_sem]); (first | refine WkL.eq ?_ ?_ | refine WkL.rest (by assumption) ?_ ?_ ?_ | refine WkL.keepL (by assumption) rfl ?_ ?_ ?_ ?_) <;> first | rfl | (simp; done) | (simp; omega) | (simp only [List.cons.injEq, AV.c.injEq, AC.int.injEq, AC.bool.injEq, AC.str.injEq, and_true, true_and, Int.natCast_add, Int.natCast_one, Int.cast_ofNat_Int]; omega) | (simp [AV.ok, AV.ok1, AC.ok]; done) | (simp [AV.ok, AV.ok1, AC.ok]; omega) | (simp only [List.forall_mem_cons, List.not_mem_nil, false_implies, implies_true, and_true]; (repeat' apply And.intro) <;> first | exact okN_map (fun x => by simp [go_sem, AC.pure]) | exact okN_grO (fun x => by simp [go_sem, AC.pure]) | (simp [AObj.okN, AC.ok]; done) | (simp [AObj.okN, AC.ok]; omega)) | (simp [*]; done) | grind
  · simp (disch := first | omega | (simp only [go_sem]; first | done | omega)) only [go_sem, hj]
    refine Ret.same (by omega) (hk _ s ?_)
    unfold resetF
    rw [← rstL_all nd.l j (by omega)]
    exact hN4
end Go.Proofs.YtnpdbnkgipkgaaaGreat
