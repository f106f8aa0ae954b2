/- Packets kept by the document's answer: cloned, and deleted in the clone. No condition. -/
import Derived.Test.YtnpdbnkgipkgaaaGreatHVNodeC
namespace Go.Proofs.YtnpdbnkgipkgaaaGreat
open Go Go.RowKit
set_option maxRecDepth 100000
set_option linter.all false
set_option maxHeartbeats 1000000
variable {H : Hp} {K : AV → Hp → Prop}
theorem indexRowKp_a (f : FuncId) (caps : List (Nat × Nat × Nat)) (p : Hd → Bool) (he : entersB Tryz.prog f = true) (hc : ∀ (a b c : Nat), (a, b, c) ∈ caps → a < H.length) {i ty n : Nat} {own : Bool} (l : List Hd) (hi : H[i]? = some (.row ty 6 (l.map encHd) own)) (hn : n = l.length) (hf : ∀ (x : Hd) (K : AV → Hp → Prop), x ∈ l → K (.c (.bool (p x))) H → ACalls Tryz.prog f (.agg (encHd x) :: caps.map fun q => .c (.ptr (some q))) H K) (hlen : l.length ≤ 1099511627776)
    (hk0 : l.any p = false → K (.c (.int .i64 (-1))) H) (hk1 : ∀ k : Nat, (h : k < l.length) → p l[k] = true → (∀ j (h : j < l.length), j < k → p l[j] = false) → K (.c (.int .i64 k)) H) : ACalls Tryz.prog 183 [.c (.sl (some (i, 0)) n), .c (.fn f [] caps)] H K := by
  subst hn
  have hilt := getElem?_lt hi
  refine acalls Tryz.func183 rfl (by kernel_rfl) (by simp (disch := first | omega | (simp only [go_sem]; first | done | omega)) only [go_sem]) (fun hH => ?_)
  simp (disch := first | omega | (simp only [go_sem]; first | done | omega)) only [go_sem]
  refine AWp.loop (H.length) [0, 1, 7] [8] (fun (k : Nat) => k ≤ l.length ∧ ∀ j (h : j < l.length), j < k → p l[j] = false) (fun (k : Nat) => [(8, (.c (.int .i64 k)))]) (fun (k : Nat) => H) (fun (k : Nat) => l.length - k) (by kernel_rfl) (fun _ => rfl) (by kernel_rfl) (by first | (simp; done) | omega) (by first | (simp; done) | (simp; omega) | omega) (by (try simp only [List.forall_mem_cons, List.not_mem_nil, false_implies, implies_true, and_true]); (try simp (disch := first | omega | (simp only [go_sem]; first | done | omega)) only [go_sem]); all_goals first | trivial | (simp [AV.ok, AV.ok1, AC.ok]; done) | (simp [AV.ok, AV.ok1, AC.ok]; omega) | (simp [AV.ok, AV.ok1, AC.ok]; assumption) | ((repeat' apply And.intro) <;> first | trivial | (simp [AV.ok, AV.ok1, AC.ok]; done) | (simp [AV.ok, AV.ok1, AC.ok]; omega) | (simp [AV.ok, AV.ok1, AC.ok]; assumption) | (refine grV_ok ?_ _; first | (simp; done) | (simp; omega) | omega))) ?_ (fun k hk1' _ _ => ?_)
  · exact Next.mk 0 (by simp) (by (try simp (disch := first | omega | (simp only [go_sem]; first | done | omega)) only [go_sem]); (first | refine WkL.eq ?_ ?_ | refine WkL.rest (by assumption) ?_ ?_ ?_ | refine WkL.keepL (by assumption) rfl ?_ ?_ ?_ ?_) <;> first | rfl | (simp; done) | (simp; omega) | (simp only [List.cons.injEq, AV.c.injEq, AC.int.injEq, AC.bool.injEq, AC.str.injEq, and_true, true_and, Int.natCast_add, Int.natCast_one, Int.cast_ofNat_Int]; omega) | (simp [AV.ok, AV.ok1, AC.ok]; done) | (simp [AV.ok, AV.ok1, AC.ok]; omega) | (simp only [List.forall_mem_cons, List.not_mem_nil, false_implies, implies_true, and_true]; (repeat' apply And.intro) <;> first | exact okN_map (fun x => by simp [go_sem, AC.pure]) | exact okN_grO (fun x => by simp [go_sem, AC.pure]) | (simp [AObj.okN, AC.ok]; done) | (simp [AObj.okN, AC.ok]; omega)) | (simp [*]; done) | grind)
  obtain ⟨hk1', hk2⟩ := hk1'
  by_cases hlt : k < l.length
  · simp (disch := first | omega | (simp only [go_sem]; first | done | omega)) only [go_sem, he, hi]
    refine hf l[k] _ (List.getElem_mem hlt) ?_
    simp (disch := first | omega | (simp only [go_sem]; first | done | omega)) only [go_sem]
    refine acond_b (fun c => ?_) (fun c => ?_)
    · simp (disch := first | omega | (simp only [go_sem]; first | done | omega)) only [go_sem]
      exact Ret.same (Nat.le_refl _) (hk1 k hlt c hk2)
    · simp (disch := first | omega | (simp only [go_sem]; first | done | omega)) only [go_sem]
      refine Next.mk (k + 1) ⟨⟨by omega, fun j h hj => ?_⟩, by omega⟩ (by (try simp (disch := first | omega | (simp only [go_sem]; first | done | omega)) only [go_sem]); (first | refine WkL.eq ?_ ?_ | refine WkL.rest (by assumption) ?_ ?_ ?_ | refine WkL.keepL (by assumption) rfl ?_ ?_ ?_ ?_) <;> first | rfl | (simp; done) | (simp; omega) | (simp only [List.cons.injEq, AV.c.injEq, AC.int.injEq, AC.bool.injEq, AC.str.injEq, and_true, true_and, Int.natCast_add, Int.natCast_one, Int.cast_ofNat_Int]; omega) | (simp [AV.ok, AV.ok1, AC.ok]; done) | (simp [AV.ok, AV.ok1, AC.ok]; omega) | (simp only [List.forall_mem_cons, List.not_mem_nil, false_implies, implies_true, and_true]; (repeat' apply And.intro) <;> first | exact okN_map (fun x => by simp [go_sem, AC.pure]) | exact okN_grO (fun x => by simp [go_sem, AC.pure]) | (simp [AObj.okN, AC.ok]; done) | (simp [AObj.okN, AC.ok]; omega)) | (simp [*]; done) | grind)
      rcases Nat.lt_or_ge j k with h1 | h1
      · exact hk2 j h h1
      · obtain rfl : j = k := by omega
        simpa using c
  · simp (disch := first | omega | (simp only [go_sem]; first | done | omega)) only [go_sem]
    refine Ret.same (Nat.le_refl _) (hk0 ?_)
    rw [List.any_eq_false]
    intro x hx
    obtain ⟨j, hj, rfl⟩ := List.getElem_of_mem hx
    simpa using hk2 j hj (by omega)
theorem delOwnKp_a (f : FuncId) (caps : List (Nat × Nat × Nat)) (p : Hd → Bool) (he : entersB Tryz.prog f = true) (hc : ∀ (a b c : Nat), (a, b, c) ∈ caps → a < H.length) {i n : Nat} (hci : ∀ (a b c : Nat), (a, b, c) ∈ caps → a ≠ i) (l : List Hd) (hi : H[i]? = some (.row 120 6 (l.map encHd) true)) (hn : n = l.length) (hf : ∀ (G : Hp) (x : Hd) (K : AV → Hp → Prop), (∀ (a b c : Nat), (a, b, c) ∈ caps → G[a]? = H[a]?) → x ∈ l → K (.c (.bool (p x))) G → ACalls Tryz.prog f (.agg (encHd x) :: caps.map fun q => .c (.ptr (some q))) G K) (hlen : l.length ≤ 1000000)
    (hk : K (.c (.sl (some (i, 0)) (l.filter (fun x => !p x)).length)) (H.set i (.row 120 6 ((l.filter (fun x => !p x)).map encHd) true))) : ACalls Tryz.prog 145 [.c (.sl (some (i, 0)) n), .c (.fn f [] caps)] H K := by
  subst hn
  have hilt := getElem?_lt hi
  refine acalls Tryz.func145 rfl (by kernel_rfl) (by simp (disch := first | omega | (simp only [go_sem]; first | done | omega)) only [go_sem]) (fun hH => ?_)
  simp (disch := first | omega | (simp only [go_sem]; first | done | omega)) only [go_sem]
  refine indexRowKp_a f caps p he hc l hi rfl (fun x K hx hK => hf H x K (fun _ _ _ _ => rfl) hx hK) (by omega) (fun h0 => ?_) (fun q hq hpq hbe => ?_)
  · simp (disch := first | omega | (simp only [go_sem]; first | done | omega)) only [go_sem]
    have e : l.filter (fun x => !p x) = l := by
      rw [List.filter_eq_self]
      intro x hx
      have := List.any_eq_false.1 h0 x hx
      simpa using this
    rw [e] at hk
    rw [set_same hi] at hk
    exact Ret.same (by simpa [AV.ok, AV.ok1, AC.ok] using hilt) hk
  · have hfq : (l.take q).filter (fun x => !p x) = l.take q := by
      rw [List.filter_eq_self]
      intro x hx
      obtain ⟨j, hj, rfl⟩ := List.getElem_of_mem hx
      rw [List.length_take] at hj
      rw [List.getElem_take, hbe j (by omega) (by omega)]
      rfl
    have hfq1 : (l.take (q + 1)).filter (fun x => !p x) = l.take q := by
      rw [List.take_succ_eq_append_getElem hq, List.filter_append, hfq]
      simp [hpq]
    simp (disch := first | omega | (simp only [go_sem]; first | done | omega)) only [go_sem]
    refine AWp.loop (H.length) [0, 1] [6, 5] (fun (s : Nat × List Hd) => q + 1 ≤ s.1 ∧ s.1 ≤ l.length ∧ s.2.length = l.length ∧ ((l.take s.1).filter (fun x => !p x)).length < s.1 ∧ s.2.take ((l.take s.1).filter (fun x => !p x)).length = (l.take s.1).filter (fun x => !p x) ∧ s.2.drop s.1 = l.drop s.1) (fun (s : Nat × List Hd) => [(6, (.c (.int .i64 (s.1)))), (5, (.c (.int .i64 (((l.take s.1).filter (fun x => !p x)).length))))]) (fun (s : Nat × List Hd) => H.set i (.row 120 6 (s.2.map encHd) true)) (fun (s : Nat × List Hd) => l.length - s.1) (by kernel_rfl) (fun _ => rfl) (by kernel_rfl) (by first | (simp; done) | omega) (by first | (simp; done) | (simp; omega) | omega) (by (try simp only [List.forall_mem_cons, List.not_mem_nil, false_implies, implies_true, and_true]); (try simp (disch := first | omega | (simp only [go_sem]; first | done | omega)) only [go_sem]); all_goals first | trivial | (simp [AV.ok, AV.ok1, AC.ok]; done) | (simp [AV.ok, AV.ok1, AC.ok]; omega) | (simp [AV.ok, AV.ok1, AC.ok]; assumption) | ((repeat' apply And.intro) <;> first | trivial | (simp [AV.ok, AV.ok1, AC.ok]; done) | (simp [AV.ok, AV.ok1, AC.ok]; omega) | (simp [AV.ok, AV.ok1, AC.ok]; assumption) | (refine grV_ok ?_ _; first | (simp; done) | (simp; omega) | omega))) ?_ (fun s hs _ _ => ?_)
    · refine Next.mk (q + 1, l) ⟨Nat.le_refl _, by dsimp only; omega, rfl, by dsimp only; rw [hfq1, List.length_take]; omega, by dsimp only; rw [hfq1, List.length_take, Nat.min_eq_left (by omega)], rfl⟩ ?_
      have hlq : ((l.take (q + 1)).filter (fun x => !p x)).length = q := by rw [hfq1, List.length_take]; omega
      dsimp only
      rw [hlq, set_same hi]
      (try simp (disch := first | omega | (simp only [go_sem]; first | done | omega)) only [go_sem]); (first | refine WkL.eq ?_ ?_ | refine WkL.rest (by assumption) ?_ ?_ ?_ | refine WkL.keepL (by assumption) rfl ?_ ?_ ?_ ?_) <;> first | rfl | (simp; done) | (simp; omega) | (simp only [List.cons.injEq, AV.c.injEq, AC.int.injEq, AC.bool.injEq, AC.str.injEq, and_true, true_and, Int.natCast_add, Int.natCast_one, Int.cast_ofNat_Int]; omega) | (simp [AV.ok, AV.ok1, AC.ok]; done) | (simp [AV.ok, AV.ok1, AC.ok]; omega) | (simp only [List.forall_mem_cons, List.not_mem_nil, false_implies, implies_true, and_true]; (repeat' apply And.intro) <;> first | exact okN_map (fun x => by simp [go_sem, AC.pure]) | exact okN_grO (fun x => by simp [go_sem, AC.pure]) | (simp [AObj.okN, AC.ok]; done) | (simp [AObj.okN, AC.ok]; omega)) | (simp [*]; done) | grind
    obtain ⟨j, cur⟩ := s
    obtain ⟨s1, s2, s3, s4, s5, s6⟩ := hs
    dsimp only at s1 s2 s3 s4 s5 s6
    obtain ⟨g, hg⟩ : ∃ g, g = (l.take j).filter (fun x => !p x) := ⟨_, rfl⟩
    rw [← hg] at s4 s5 ⊢
    have hcaps : ∀ (o : AObj) (M : Hp) (a b c : Nat), (a, b, c) ∈ caps → (H.set i o ++ M)[a]? = H[a]? := fun o M a b c hm => by
      rw [List.getElem?_append_left (by rw [List.length_set]; exact hc a b c hm), List.getElem?_set_ne (Ne.symm (hci a b c hm))]
    by_cases hlt : j < l.length
    · have hjc : j < cur.length := by omega
      have hcj : cur[j] = l[j] := by
        have h1 := congrArg (fun z => z[0]?) s6
        simp only [List.getElem?_drop, Nat.add_zero] at h1
        rw [List.getElem?_eq_getElem hjc, List.getElem?_eq_getElem hlt] at h1
        exact Option.some.inj h1
      have hgc : g.length < cur.length := by omega
      have hnx : (l.take (j + 1)).filter (fun x => !p x) = g ++ (if p l[j] = true then [] else [l[j]]) := by
        rw [List.take_succ_eq_append_getElem hlt, List.filter_append, ← hg]
        congr 1
        by_cases c : p l[j] = true <;> simp [c]
      have hdr : ∀ v, (cur.set g.length v).drop (j + 1) = l.drop (j + 1) := fun v => by
        rw [List.drop_set_of_lt (by omega), ← List.drop_drop, s6, List.drop_drop]
      have hdr0 : cur.drop (j + 1) = l.drop (j + 1) := by rw [← List.drop_drop, s6, List.drop_drop]
      simp (disch := first | omega | (simp only [go_sem]; first | done | omega)) only [go_sem, he, hcj]
      refine hf _ l[j] _ (hcaps _ _) (List.getElem_mem hlt) ?_
      simp (disch := first | omega | (simp only [go_sem]; first | done | omega)) only [go_sem]
      refine acond_b (fun c => ?_) (fun c => ?_)
      · rw [if_pos c, List.append_nil] at hnx
        simp (disch := first | omega | (simp only [go_sem]; first | done | omega)) only [go_sem]
        refine Next.mk (j + 1, cur) ?_ ?_
        · dsimp only; rw [hnx]; exact ⟨⟨by omega, by omega, s3, by omega, s5, hdr0⟩, by omega⟩
        · dsimp only; rw [hnx]; (try simp (disch := first | omega | (simp only [go_sem]; first | done | omega)) only [go_sem]); (first | refine WkL.eq ?_ ?_ | refine WkL.rest (by assumption) ?_ ?_ ?_ | refine WkL.keepL (by assumption) rfl ?_ ?_ ?_ ?_) <;> first | rfl | (simp; done) | (simp; omega) | (simp only [List.cons.injEq, AV.c.injEq, AC.int.injEq, AC.bool.injEq, AC.str.injEq, and_true, true_and, Int.natCast_add, Int.natCast_one, Int.cast_ofNat_Int]; omega) | (simp [AV.ok, AV.ok1, AC.ok]; done) | (simp [AV.ok, AV.ok1, AC.ok]; omega) | (simp only [List.forall_mem_cons, List.not_mem_nil, false_implies, implies_true, and_true]; (repeat' apply And.intro) <;> first | exact okN_map (fun x => by simp [go_sem, AC.pure]) | exact okN_grO (fun x => by simp [go_sem, AC.pure]) | (simp [AObj.okN, AC.ok]; done) | (simp [AObj.okN, AC.ok]; omega)) | (simp [*]; done) | grind
      · rw [if_neg (by simp [c])] at hnx
        simp (disch := first | omega | (simp only [go_sem]; first | done | omega)) only [go_sem]
        have hset : (cur.map encHd).set g.length (encHd l[j]) = (cur.set g.length l[j]).map encHd := by rw [List.map_set]
        simp only [encHd] at hset
        refine Next.mk (j + 1, cur.set g.length l[j]) ?_ ?_
        · dsimp only
          rw [hnx]
          refine ⟨⟨by omega, by omega, by simpa using s3, by simp; omega, ?_, hdr _⟩, by omega⟩
          rw [List.length_append, List.length_singleton, List.take_succ_eq_append_getElem (by simpa using hgc), List.getElem_set_self]
          congr 1
          rw [List.take_set_of_le (Nat.le_refl _)]
          exact s5
        · dsimp only
          have hok2 : HOk (H.set i (.row 120 6 ((cur.set g.length l[j]).map encHd) true)) := HOk.set hH (okN_map (fun x => by simp [go_sem, AC.pure]))
          rw [hnx, ← hset]
          rw [← hset] at hok2
          (try simp (disch := first | omega | (simp only [go_sem]; first | done | omega)) only [go_sem]); (first | refine WkL.eq ?_ ?_ | refine WkL.rest (by assumption) ?_ ?_ ?_ | refine WkL.keepL (by assumption) rfl ?_ ?_ ?_ ?_) <;> first | rfl | (simp; done) | (simp; omega) | (simp only [List.cons.injEq, AV.c.injEq, AC.int.injEq, AC.bool.injEq, AC.str.injEq, and_true, true_and, Int.natCast_add, Int.natCast_one, Int.cast_ofNat_Int]; omega) | (simp [AV.ok, AV.ok1, AC.ok]; done) | (simp [AV.ok, AV.ok1, AC.ok]; omega) | (simp only [List.forall_mem_cons, List.not_mem_nil, false_implies, implies_true, and_true]; (repeat' apply And.intro) <;> first | exact okN_map (fun x => by simp [go_sem, AC.pure]) | exact okN_grO (fun x => by simp [go_sem, AC.pure]) | (simp [AObj.okN, AC.ok]; done) | (simp [AObj.okN, AC.ok]; omega)) | (simp [*]; done) | grind
    · have hjl : j = l.length := by omega
      subst hjl
      rw [List.take_length] at hg
      rw [← hg] at hk
      simp (disch := first | omega | (simp only [go_sem]; first | done | omega)) only [go_sem]
      refine aclr_pos _ _ (List.getElem?_set_self hilt) (by omega) rfl (by simp; omega) ?_
      rw [List.set_set, ← List.map_take, s5]
      simp (disch := first | omega | (simp only [go_sem]; first | done | omega)) only [go_sem]
      exact Ret.same (by simpa [AV.ok, AV.ok1, AC.ok] using hilt) hk
def kdO (b : Bool) (l : List Hd) : AObj := if b = true then .row 120 6 (l.map encHd) true else grO 120 6 (l.map encHd)
theorem kdO_pos (b : Bool) {l : List Hd} (h : l ≠ []) : kdO b l = .row 120 6 (l.map encHd) true := by
  unfold kdO
  cases b
  · rw [if_neg (by decide), grO_pos _ _ (by simpa using h)]
  · rfl
theorem deleteKp_a (l : List Hd) (k : Nat) (hk0 : k < l.length) {i n : Nat} (hi : H[i]? = some (.row 120 6 (l.map encHd) true)) (hn : n = l.length) (hlen : l.length ≤ 1000000)
    (hk : K (.c (.sl (some (i, 0)) (l.eraseIdx k).length)) (H.set i (.row 120 6 ((l.eraseIdx k).map encHd) true))) : ACalls Tryz.prog 207 [.c (.sl (some (i, 0)) n), (.c (.int .i64 k)), (.c (.int .i64 ((k : Int) + 1)))] H K := by
  subst hn
  refine acalls Tryz.func207 rfl (by kernel_rfl) (by simp (disch := first | omega | (simp only [go_sem]; first | done | omega)) only [go_sem]) (fun hH => ?_)
  simp (disch := first | omega | (simp only [go_sem]; first | done | omega)) only [go_sem, hi]
  have hlm : (l.map encHd).length = l.length := by simp
  have hle : (l.eraseIdx k).length = l.length - 1 := by rw [List.length_eraseIdx_of_lt hk0]
  obtain ⟨e3, he3⟩ : ∃ e3, e3 = (l.map encHd).take k ++ (l.map encHd).drop (k + 1) ++ (l.map encHd).drop ((l.map encHd).length - 1) := ⟨_, rfl⟩
  have he4 : e3.take (l.length - 1) = (l.eraseIdx k).map encHd := by
    rw [he3, List.take_append_of_le_length (by simp; omega), List.take_of_length_le (by simp; omega), List.eraseIdx_eq_take_drop_succ, List.map_append, List.map_take, List.map_drop]
  have he5 : e3.length = l.length := by rw [he3]; simp; omega
  have hilt := getElem?_lt hi
  have g1 : k < (l.map encHd).length := by omega
  have g3 : (l.map encHd).length * Tryz.prog.bytesOf 120 ≤ 140737488355328 := by
    rw [show Tryz.prog.bytesOf 120 = 56 by kernel_rfl]; omega
  have g4 : (l.map encHd).length ≤ 9223372036854775807 := by omega
  have g5 : rowN (H.set i (.row 120 6 e3 true)) (some (i, 0)) = l.length := by rw [rowN_of (List.getElem?_set_self hilt)]; omega
  repeat' (first | ((first | refine acond_d ?_ ?_ | refine acond_b ?_ ?_ | refine ag_d ?_ ?_ | refine ag_n ?_ ?_ | refine ag_bt ?_ ?_ | refine ag_bf ?_ ?_ | refine agt_d ?_ ?_ | refine agt_n ?_ ?_ | refine agt_bt ?_ ?_ | refine agt_bf ?_ ?_) <;> intro c <;> try simp (disch := first | omega | (simp only [go_sem]; first | done | omega)) only [go_sem, c, hi]) | ((first | refine w_draw (by kernel_rfl) (by decide +kernel) ?_ | refine app_del (q := k) (e := 120) (sz := 6) (z := zHd) (by omega) (by omega) (by omega) g1 (by kernel_rfl) (by kernel_rfl) rfl (by kernel_rfl) hi (by decide) g3 g4 he3.symm ?_ | refine w_tree (.one 0 (.one 1 (.one 2 (.one 3 (.one 4 (.one 5 (.one 6 (.one 7 .done)))))))) (by kernel_rfl) (by decide +kernel) ?_) <;> try simp (disch := first | omega | (simp only [go_sem]; first | done | omega)) only [go_sem, hi]) | (refine And.intro ?_ ?_ <;> try simp (disch := first | omega | (simp only [go_sem]; first | done | omega)) only [go_sem, hi]))
  refine aclr_pos _ _ (List.getElem?_set_self hilt) (by omega) rfl (by omega) ?_
  rw [List.set_set, he4]
  rw [hle] at hk
  simp (disch := first | omega | (simp only [go_sem]; first | done | omega)) only [go_sem]
  exact Ret.same (by simpa [AV.ok, AV.ok1, AC.ok] using hilt) hk
theorem indexNilKp_a (f : FuncId) (caps : List (Nat × Nat × Nat)) (hk : K (.c (.int .i64 (-1))) H) : ACalls Tryz.prog 183 [.c (.sl none 0), .c (.fn f [] caps)] H K := by
  refine acalls Tryz.func183 rfl (by kernel_rfl) (by simp (disch := first | omega | (simp only [go_sem]; first | done | omega)) only [go_sem]) (fun hH => ?_)
  simp (disch := first | omega | (simp only [go_sem]; first | done | omega)) only [go_sem]
  refine AWp.rounds 0 (by kernel_rfl) ?_
  simp (disch := first | omega | (simp only [go_sem]; first | done | omega)) only [go_sem]
  exact Ret.same (Nat.le_refl _) hk
theorem delNilKp_a (f : FuncId) (caps : List (Nat × Nat × Nat)) (hk : K (.c (.sl none 0)) H) : ACalls Tryz.prog 145 [.c (.sl none 0), .c (.fn f [] caps)] H K := by
  refine acalls Tryz.func145 rfl (by kernel_rfl) (by simp (disch := first | omega | (simp only [go_sem]; first | done | omega)) only [go_sem]) (fun hH => ?_)
  simp (disch := first | omega | (simp only [go_sem]; first | done | omega)) only [go_sem]
  refine indexNilKp_a f caps ?_
  simp (disch := first | omega | (simp only [go_sem]; first | done | omega)) only [go_sem]
  exact Ret.same (Nat.le_refl _) hk
theorem delKpV_a (f : FuncId) (caps : List (Nat × Nat × Nat)) (p : Hd → Bool) (he : entersB Tryz.prog f = true) (hc : ∀ (a b c : Nat), (a, b, c) ∈ caps → a < H.length) {i : Nat} {b : Bool} (hci : ∀ (a b c : Nat), (a, b, c) ∈ caps → a ≠ i) (l : List Hd) (hi : H[i]? = some (kdO b l)) (hf : ∀ (G : Hp) (x : Hd) (K : AV → Hp → Prop), (∀ (a b c : Nat), (a, b, c) ∈ caps → G[a]? = H[a]?) → x ∈ l → K (.c (.bool (p x))) G → ACalls Tryz.prog f (.agg (encHd x) :: caps.map fun q => .c (.ptr (some q))) G K) (hlen : l.length ≤ 1000000)
    (hk : ∀ b', K (.c (hdV b' i (l.filter (fun x => !p x)))) (H.set i (kdO b' (l.filter (fun x => !p x))))) : ACalls Tryz.prog 145 [.c (hdV b i l), .c (.fn f [] caps)] H K := by
  by_cases h : l = [] ∧ b = false
  · obtain ⟨rfl, rfl⟩ := h
    have := hk false
    rw [List.filter_nil, set_same hi] at this
    exact delNilKp_a f caps this
  · have e1 : hdV b i l = .sl (some (i, 0)) l.length := by
      cases b with
      | true => rfl
      | false => exact hdV_pos _ _ (fun h0 => h ⟨h0, rfl⟩)
    have e2 : kdO b l = .row 120 6 (l.map encHd) true := by
      cases b with
      | true => rfl
      | false => exact kdO_pos _ (fun h0 => h ⟨h0, rfl⟩)
    rw [e1]
    rw [e2] at hi
    exact delOwnKp_a f caps p he hc hci l hi rfl hf hlen (hk true)
theorem kclP_a {i n : Nat} (l : List Hd) (hi : H[i]? = some (.row 120 6 (l.map encHd) true)) (hn : n = l.length) (h0 : l ≠ []) (hl : l.length ≤ 1000000) (hk : K (.c (.sl (some (H.length, 0)) l.length)) (H ++ [.row 120 6 (l.map encHd) true])) : ACalls Tryz.prog 146 [.c (.sl (some (i, 0)) n)] H K := by
  subst hn
  have hlt := getElem?_lt hi
  cases l with
  | nil => exact absurd rfl h0
  | cons x xs =>
    simp only [List.length_cons] at hl
    refine acalls Tryz.func146 rfl (by kernel_rfl) (by simp (disch := first | omega | (simp only [go_sem]; first | done | omega)) only [go_sem]) (fun hH => ?_)
    simp (disch := first | omega | (simp only [go_sem]; first | done | omega)) only [go_sem]
    refine app_sl ?_
    simp only [List.map_cons, encHd] at hi
    simp (disch := first | omega | (simp only [go_sem]; first | done | omega)) only [go_sem, hi]
    refine Ret.pick [1] hH (Nat.le_refl _) (L := [.row 120 6 ((x :: xs).map encHd) true]) rfl (by simp) (by simp [AObj.pureO, pureL, encHd, AC.pure]) (v' := .c (.sl (some (H.length, 0)) (xs.length + 1))) ?_ (by simp [AV.ok, AV.ok1, AC.ok]) (by simpa using hk)
    simp [AV.ren, AV.ren1, AC.ren, pickS]
theorem kclV_a {i : Nat} {b : Bool} (l : List Hd) (hi : H[i]? = some (kdO b l)) (hl : l.length ≤ 1000000) (hk : K (.c (hdV b H.length l)) (H ++ [kdO b l])) : ACalls Tryz.prog 146 [.c (hdV b i l)] H K := by
  by_cases h0 : l = []
  · subst h0
    cases b with
    | false =>
      show ACalls _ _ [.c (.sl none 0)] H K
      refine acalls Tryz.func146 rfl (by kernel_rfl) (by simp (disch := first | omega | (simp only [go_sem]; first | done | omega)) only [go_sem]) (fun hH => ?_)
      simp (disch := first | omega | (simp only [go_sem]; first | done | omega)) only [go_sem]
      exact Ret.pad (Nat.le_refl _) (Ret.same (by simp) hk)
    | true =>
      show ACalls _ _ [.c (.sl (some (i, 0)) 0)] H K
      refine acalls Tryz.func146 rfl (by kernel_rfl) (by simp (disch := first | omega | (simp only [go_sem]; first | done | omega)) only [go_sem]) (fun hH => ?_)
      simp (disch := first | omega | (simp only [go_sem]; first | done | omega)) only [go_sem]
      refine (show 116 = 116 ∧ _ from ⟨rfl, ?_⟩)
      rw [show elemT Tryz.prog 116 = some 120 by kernel_rfl]
      refine ⟨by kernel_rfl, fun _ => ?_, fun h => absurd h (by decide)⟩
      simp (disch := first | omega | (simp only [go_sem]; first | done | omega)) only [go_sem]
      exact Ret.same (by simp) hk
  · rw [hdV_pos _ _ h0]
    rw [kdO_pos _ h0] at hi
    rw [hdV_pos _ _ h0, kdO_pos _ h0] at hk
    exact kclP_a l hi rfl h0 hl hk
end Go.Proofs.YtnpdbnkgipkgaaaGreat
