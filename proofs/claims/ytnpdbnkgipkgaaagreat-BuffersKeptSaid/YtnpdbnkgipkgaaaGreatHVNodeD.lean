/- Packets acked, and packets sent. No condition. -/
import Derived.Test.YtnpdbnkgipkgaaaGreatHVNodeC
namespace Go.Proofs.YtnpdbnkgipkgaaaGreat
open Go Go.RowKit
set_option maxRecDepth 100000
set_option linter.all false
set_option maxHeartbeats 2000000
variable {H : Hp} {K : AV → Hp → Prop}
@[go_sem] theorem mapK_ib : mapK Tryz.prog 105 = some 3 := (by kernel_rfl)
@[go_sem] theorem mapZ_ib : (mapE Tryz.prog 105).bind (zeroA Tryz.prog) = some (.c (.bool false)) := (by kernel_rfl)
def encEv (n : Int) : AV × AV := (.c (.int .i64 n), .c (.bool true))
theorem find_mem (a : Int) : ∀ l : List Int, l.find? (fun n => decide (a = n)) = if a ∈ l then some a else none
  | [] => by simp
  | x :: l => by
    have ih := find_mem a l
    by_cases h : a = x
    · subst h; simp
    · rw [List.find?_cons_of_neg (by simpa using h), ih]
      simp [h]
theorem get_ever {kt : TypeId} (a : Int) (l : List Int) (ht : keyT Tryz.prog kt (.c (.int .i64 a)) = true) : mapGet Tryz.prog kt (.c (.int .i64 a)) (some (.c (.bool false))) (l.map encEv) = some (.c (.bool (decide (a ∈ l))), decide (a ∈ l)) := by
  rw [get_of (e := encEv) (p := fun n => decide (a = n)) ht (findA_int .i64 a (fun x : Int => x) (fun _ : Int => .c (.bool true)) l), find_mem]
  by_cases h : a ∈ l <;> simp [h, encEv]
theorem ups_ever (a : Int) : ∀ l : List Int, upsert (fun n => decide (a = n)) a l = addE l a
  | [] => by simp [upsert, addE]
  | x :: l => by
    have ih := ups_ever a l
    unfold addE at ih ⊢
    unfold upsert at ih ⊢
    rw [List.findIdx?_cons]
    by_cases h : a = x
    · subst h; simp
    · simp only [h, decide_false, Bool.false_eq_true, if_false, List.mem_cons, false_or]
      cases hq : l.findIdx? (fun n => decide (a = n)) with
      | none =>
        rw [hq] at ih
        dsimp only [Option.map_none] at ih ⊢
        by_cases h2 : a ∈ l
        · rw [if_pos h2] at ih
          have := congrArg List.length ih
          simp at this
        · simp [h2]
      | some j =>
        rw [hq] at ih
        dsimp only [Option.map_some] at ih ⊢
        by_cases h2 : a ∈ l
        · rw [if_pos h2] at ih ⊢
          simp [ih]
        · rw [if_neg h2] at ih
          have := congrArg List.length ih
          simp at this
theorem put_ever {kt : TypeId} (a : Int) (l : List Int) (ht : keyT Tryz.prog kt (.c (.int .i64 a)) = true) : mapPut Tryz.prog kt (.c (.int .i64 a)) (.c (.bool true)) (l.map encEv) = some ((addE l a).map encEv) := by
  rw [← ups_ever]
  exact put_of (e := encEv) (p := fun n => decide (a = n)) (x := a) ht (findA_int .i64 a (fun x : Int => x) (fun _ : Int => .c (.bool true)) l) rfl
theorem ackFn_a (x : Hd) (i : Nat) (seq : Int) {ty : Nat} {own : Bool} (hi : H[i]? = some (.row ty 1 [[.int .i64 seq]] own)) (hk : K (.c (.bool (decide (x.p.n ≤ seq)))) H) : ACalls Tryz.prog 139 [.agg (encHd x), .c (.ptr (some (i, 0, 0)))] H K := by
  have hilt := getElem?_lt hi
  refine acalls Tryz.func139 rfl (by kernel_rfl) (by simp (disch := first | omega | (simp only [go_sem]; first | done | omega)) only [go_sem]) (fun hH => ?_)
  simp (disch := first | omega | (simp only [go_sem]; first | done | omega)) only [go_sem, hi]
  exact Ret.drop hH (Nat.le_refl _) trivial hk
theorem indexNilHd_a (f : FuncId) (caps : List (Nat × Nat × Nat)) (hk : K (.c (.int .i64 (-1))) H) : ACalls Tryz.prog 170 [.c (.sl none 0), .c (.fn f [] caps)] H K := by
  refine acalls Tryz.func170 rfl (by kernel_rfl) (by simp (disch := first | omega | (simp only [go_sem]; first | done | omega)) only [go_sem]) (fun hH => ?_)
  simp (disch := first | omega | (simp only [go_sem]; first | done | omega)) only [go_sem]
  refine AWp.rounds 0 (by kernel_rfl) ?_
  simp (disch := first | omega | (simp only [go_sem]; first | done | omega)) only [go_sem]
  exact Ret.same (Nat.le_refl _) hk
theorem delNilHd_a (f : FuncId) (caps : List (Nat × Nat × Nat)) (hk : K (.c (.sl none 0)) H) : ACalls Tryz.prog 138 [.c (.sl none 0), .c (.fn f [] caps)] H K := by
  refine acalls Tryz.func138 rfl (by kernel_rfl) (by simp (disch := first | omega | (simp only [go_sem]; first | done | omega)) only [go_sem]) (fun hH => ?_)
  simp (disch := first | omega | (simp only [go_sem]; first | done | omega)) only [go_sem]
  refine indexNilHd_a f caps ?_
  simp (disch := first | omega | (simp only [go_sem]; first | done | omega)) only [go_sem]
  exact Ret.same (Nat.le_refl _) hk
theorem delHdV_a (f : FuncId) (caps : List (Nat × Nat × Nat)) (p : Hd → Bool) (he : entersB Tryz.prog f = true) (hc : ∀ (a b c : Nat), (a, b, c) ∈ caps → a < H.length) {i : Nat} {b : Bool} (hci : ∀ (a b c : Nat), (a, b, c) ∈ caps → a ≠ i) (l : List Hd) (hi : H[i]? = some (hdO b l)) (hf : ∀ (G : Hp) (x : Hd) (K : AV → Hp → Prop), (∀ (a b c : Nat), (a, b, c) ∈ caps → G[a]? = H[a]?) → x ∈ l → K (.c (.bool (p x))) G → ACalls Tryz.prog f (.agg (encHd x) :: caps.map fun q => .c (.ptr (some q))) G K) (hlen : l.length ≤ 1000000)
    (hk : ∀ b', K (.c (hdV b' i (l.filter (fun x => !p x)))) (H.set i (hdO b' (l.filter (fun x => !p x))))) : ACalls Tryz.prog 138 [.c (hdV b i l), .c (.fn f [] caps)] H K := by
  by_cases h : l = [] ∧ b = false
  · obtain ⟨rfl, rfl⟩ := h
    have := hk false
    rw [List.filter_nil, set_same hi] at this
    exact delNilHd_a f caps this
  · have e1 : hdV b i l = .sl (some (i, 0)) l.length := by
      cases b with
      | true => rfl
      | false => exact hdV_pos _ _ (fun h0 => h ⟨h0, rfl⟩)
    have e2 : hdO b l = .row 109 6 (l.map encHd) true := by
      cases b with
      | true => rfl
      | false => exact hdO_pos _ (fun h0 => h ⟨h0, rfl⟩)
    rw [e1]
    rw [e2] at hi
    exact delOwnHd_a f caps p he hc hci l hi rfl hf hlen (hk true)
theorem NodeAt.app {c0 : Nat} {S : Nat → Option AObj} {c p : Int} {nd : Nd} {s : Nm} {G : Hp} (h : NodeAt c0 S c p nd s G) (L : Hp) : NodeAt c0 S c p nd s (G ++ L) := by
  obtain ⟨pre, hc, hm, hl, ho, hd, hr, hw, ne⟩ := h
  exact ⟨fun q o hq => ⟨get_old (pre q o hq).1 _, (pre q o hq).2⟩, get_old hc _, get_old hm _, get_old hl _, get_old ho _, get_old hd _, get_old hr _, get_old hw _, ne⟩
theorem get_s1 {G L : Hp} {i j : Nat} {x o : AObj} (h : G[i]? = some x) (h1 : j ≠ i) : (G.set j o ++ L)[i]? = some x := by
  rw [List.getElem?_append_left (by have := getElem?_lt h; simpa using this), List.getElem?_set_ne h1]; exact h
theorem nack_a {G : Hp} {c0 : Nat} {S : Nat → Option AObj} {cc pp : Int} {nd : Nd} {s : Nm} (seq : Int) (hN : NodeAt c0 S cc pp nd s G) (h1 : nd.l.length ≤ 100000)
    (hk1 : ackE seq nd ≠ 0 → ∀ G' s', NodeAt c0 S cc pp nd s' G' → K (.c (.int .i64 (ackE seq nd))) G') (hk2 : ackE seq nd = 0 → ∀ G' s', NodeAt c0 S cc pp { nd with acked := seq, l := nd.l.filter (fun x => decide (seq < x.p.n)) } s' G' → K (.c (.int .i64 0)) G') :
    ACalls Tryz.prog 113 [.c (.ptr (some (c0, 0, 0))), (.c (.int .i64 seq))] G K := by
  have hN0 := hN
  (obtain ⟨pre, hc, hm, hl, ho, hd, hr, hw, ne⟩ := hN; simp only [List.nodup_cons, List.mem_cons, List.not_mem_nil, or_false, not_or, List.nodup_nil, and_true, not_false_eq_true] at ne; obtain ⟨⟨m1, m2, m3, m4, m5, m6⟩, ⟨n1, n2, n3, n4, n5⟩, ⟨n6, n7, n8, n9⟩, ⟨n10, n11, n12⟩, ⟨n13, n14⟩, n15⟩ := ne; have hcl := getElem?_lt hc; have hml := getElem?_lt hm; have hll := getElem?_lt hl; have hol := getElem?_lt ho; have hdl := getElem?_lt hd; have hrl := getElem?_lt hr; have hwl := getElem?_lt hw)
  have hc' := hc
  have hm' : G[s.m]? = some (mpO (nd.ever.map encEv)) := hm
  unfold nodeO at hc'
  by_cases c1 : seq ≠ 0 ∧ ¬ seq ∈ nd.ever
  · have e : ackE seq nd = 8 := by unfold ackE; rw [if_pos c1]
    rw [e] at hk1
    refine acalls Tryz.func113 rfl (by kernel_rfl) (by simp (disch := first | omega | (simp only [go_sem]; first | done | omega)) only [go_sem]) (fun hH => ?_)
    simp (disch := first | omega | (simp only [go_sem]; first | done | omega)) only [go_sem]
    repeat' (first | ((first | refine acond_d ?_ ?_ | refine acond_b ?_ ?_ | refine ag_d ?_ ?_ | refine ag_n ?_ ?_ | refine ag_bt ?_ ?_ | refine ag_bf ?_ ?_ | refine agt_d ?_ ?_ | refine agt_n ?_ ?_ | refine agt_bt ?_ ?_ | refine agt_bf ?_ ?_) <;> intro c <;> try simp (disch := first | omega | (simp only [go_sem]; first | done | omega)) only [go_sem, c, hc', hcl, hm', hml, c1]) | ((first | refine w_draw (by kernel_rfl) (by decide +kernel) ?_ | refine look_mp (by kernel_rfl) (get_ever seq nd.ever (by kernel_rfl)) rfl ?_ | refine w_tree (.one 0 (.one 1 (.one 2 (.one 3 (.one 4 (.one 5 (.one 6 (.one 7 (.one 8 (.one 9 (.one 10 (.one 11 .done)))))))))))) (by kernel_rfl) (by decide +kernel) ?_) <;> try simp (disch := first | omega | (simp only [go_sem]; first | done | omega)) only [go_sem, hc', hcl, hm', hml, c1]) | (refine And.intro ?_ ?_ <;> try simp (disch := first | omega | (simp only [go_sem]; first | done | omega)) only [go_sem, hc', hcl, hm', hml, c1]))
    all_goals exact Ret.same (by simp) (hk1 (by decide) _ _ (hN0.app _))
  by_cases c2 : seq < nd.acked
  · have e : ackE seq nd = 7 := by unfold ackE; rw [if_neg c1, if_pos c2]
    rw [e] at hk1
    refine acalls Tryz.func113 rfl (by kernel_rfl) (by simp (disch := first | omega | (simp only [go_sem]; first | done | omega)) only [go_sem]) (fun hH => ?_)
    simp (disch := first | omega | (simp only [go_sem]; first | done | omega)) only [go_sem]
    repeat' (first | ((first | refine acond_d ?_ ?_ | refine acond_b ?_ ?_ | refine ag_d ?_ ?_ | refine ag_n ?_ ?_ | refine ag_bt ?_ ?_ | refine ag_bf ?_ ?_ | refine agt_d ?_ ?_ | refine agt_n ?_ ?_ | refine agt_bt ?_ ?_ | refine agt_bf ?_ ?_) <;> intro c <;> try simp (disch := first | omega | (simp only [go_sem]; first | done | omega)) only [go_sem, c, hc', hcl, hm', hml, c2]) | ((first | refine w_draw (by kernel_rfl) (by decide +kernel) ?_ | refine look_mp (by kernel_rfl) (get_ever seq nd.ever (by kernel_rfl)) rfl ?_ | refine w_tree (.one 0 (.one 1 (.one 2 (.one 3 (.one 4 (.one 5 (.one 6 (.one 7 (.one 8 (.one 9 (.one 10 (.one 11 .done)))))))))))) (by kernel_rfl) (by decide +kernel) ?_ | refine w_tree (.one 0 (.one 1 (.one 2 (.one 3 (.one 4 (.one 5 (.one 6 .done))))))) (by kernel_rfl) (by decide +kernel) ?_) <;> try simp (disch := first | omega | (simp only [go_sem]; first | done | omega)) only [go_sem, hc', hcl, hm', hml, c2]) | (refine And.intro ?_ ?_ <;> try simp (disch := first | omega | (simp only [go_sem]; first | done | omega)) only [go_sem, hc', hcl, hm', hml, c2]))
    all_goals first | exact Ret.same (by simp) (hk1 (by decide) _ _ (hN0.app _)) | exact absurd ⟨by assumption, by assumption⟩ c1
  have e : ackE seq nd = 0 := by unfold ackE; rw [if_neg c1, if_neg c2]
  have hk2 := hk2 e
  clear hk1 hN0
  have hfe : (fun x : Hd => decide (seq < x.p.n)) = (fun x : Hd => !(decide (x.p.n ≤ seq))) := by
    funext x
    rw [← decide_not]
    exact decide_eq_decide.2 (by omega)
  rw [hfe] at hk2
  refine acalls Tryz.func113 rfl (by kernel_rfl) (by simp (disch := first | omega | (simp only [go_sem]; first | done | omega)) only [go_sem]) (fun hH => ?_)
  simp (disch := first | omega | (simp only [go_sem]; first | done | omega)) only [go_sem]
  repeat' (first | ((first | refine acond_d ?_ ?_ | refine acond_b ?_ ?_ | refine ag_d ?_ ?_ | refine ag_n ?_ ?_ | refine ag_bt ?_ ?_ | refine ag_bf ?_ ?_ | refine agt_d ?_ ?_ | refine agt_n ?_ ?_ | refine agt_bt ?_ ?_ | refine agt_bf ?_ ?_) <;> intro c <;> try simp (disch := first | omega | (simp only [go_sem]; first | done | omega)) only [go_sem, c, hc', hcl, hm', hml, c2]) | ((first | refine w_draw (by kernel_rfl) (by decide +kernel) ?_ | refine look_mp (by kernel_rfl) (get_ever seq nd.ever (by kernel_rfl)) rfl ?_ | refine delHdV_a _ _ (fun x => decide (x.p.n ≤ seq)) (by kernel_rfl) ?_ ?_ nd.l (get_s1 hl (by omega)) ?_ (by omega) (fun b' => ?_) | refine w_tree (.one 0 (.one 1 (.one 2 (.one 3 (.one 4 (.one 5 (.one 6 (.one 7 (.one 8 (.one 9 (.one 10 (.one 11 .done)))))))))))) (by kernel_rfl) (by decide +kernel) ?_ | refine w_tree (.one 0 (.one 1 (.one 2 (.one 3 (.one 4 (.one 5 (.one 6 .done))))))) (by kernel_rfl) (by decide +kernel) ?_) <;> try simp (disch := first | omega | (simp only [go_sem]; first | done | omega)) only [go_sem, hc', hcl, hm', hml, c2]) | (refine And.intro ?_ ?_ <;> try simp (disch := first | omega | (simp only [go_sem]; first | done | omega)) only [go_sem, hc', hcl, hm', hml, c2]))
  all_goals try subst c
  all_goals first
    | exact absurd ⟨by assumption, by assumption⟩ c1
    | (intro a b d hm9; simp at hm9; omega)
    | (intro G1 x K1 hG1 hx9 hK1; exact ackFn_a x _ _ ((hG1 _ _ _ (List.Mem.head _)).trans (by rw [List.getElem?_append_right (by simp), List.length_set, Nat.sub_self]; rfl)) hK1)
    | (refine Ret.same (by simp) (hk2 _ { s with b := b' } ⟨?_, ?_, ?_, ?_, ?_, ?_, ?_, ?_, ?_⟩) <;> (first | (simp only [List.nodup_cons, List.mem_cons, List.not_mem_nil, or_false, not_or, List.nodup_nil, and_true, not_false_eq_true]; (try dsimp only); (repeat' apply And.intro) <;> omega) | (intro q o hq; obtain ⟨g1, g2⟩ := pre q o hq; have g3 := getElem?_lt g1; simp only [List.mem_cons, List.not_mem_nil, or_false, not_or] at g2 ⊢; refine ⟨?_, by (try dsimp only); omega⟩; (try rw [List.getElem?_append_left (by (try simp only [List.length_set]); omega)]); (repeat rw [List.getElem?_set_ne (by omega)]); exact g1) | ((try dsimp only); (try rw [List.getElem?_append_left (by (try simp only [List.length_set]); omega)]); (repeat rw [List.getElem?_set_ne (by omega)]); first | assumption | (rw [List.getElem?_set_self (by (try simp only [List.length_set]); omega)]; done) | (rw [List.getElem?_set_self (by (try simp only [List.length_set]); omega)]; rfl) | (rw [List.getElem?_set_self (by (try simp only [List.length_set]); omega)]; simp [nodeO, hdV, hdO, *]; done)) | ((try dsimp only); rw [List.getElem?_append_right (by (try simp only [List.length_set]); omega)]; (try simp only [List.length_set, Nat.add_sub_cancel_left, Nat.sub_self]); rfl)))
end Go.Proofs.YtnpdbnkgipkgaaaGreat
