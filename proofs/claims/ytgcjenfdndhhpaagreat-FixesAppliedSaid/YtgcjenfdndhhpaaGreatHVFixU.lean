/- OverriddenOf: the document's overridden fixes. Condition: the list is not long. -/
import Derived.Test.YtgcjenfdndhhpaaGreatHVFixH
import Derived.Test.YtgcjenfdndhhpaaGreatHVFixS
namespace Go.Proofs.YtgcjenfdndhhpaaGreat
open Go Go.RowKit
set_option maxRecDepth 100000
set_option linter.all false
set_option maxHeartbeats 2000000
variable {H : Hp} {K : AV → Hp → Prop}
theorem cloneFx_a (l : List Fix) (hl : l.length ≤ 1099511627776) (hk : K (.c (clV H.length 11 (l.map encF))) (H ++ [grO 77 11 (l.map encF)])) : ACalls Tryz.prog 43 [.c (.lst 11 (l.map encF))] H K := by
  cases l with
  | nil =>
    refine acalls Tryz.func43 rfl (by kernel_rfl) (by simp (disch := first | omega | (simp only [go_sem]; first | done | omega)) only [go_sem]) (fun hH => ?_)
    simp (disch := first | omega | (simp only [go_sem]; first | done | omega)) only [go_sem]
    refine asome_i (fun b _ => ?_)
    cases b
    · simp (disch := first | omega | (simp only [go_sem]; first | done | omega)) only [go_sem]
      refine app_lst ?_
      simp (disch := first | omega | (simp only [go_sem]; first | done | omega)) only [go_sem]
      exact Ret.nil [11] (by simp) (Ret.cut hH (Nat.le_refl _) trivial (Ret.pad (Nat.le_refl _) (Ret.same (by simp) hk)))
    · simp (disch := first | omega | (simp only [go_sem]; first | done | omega)) only [go_sem]
      exact Ret.nil [11] (by simp) (Ret.pad (Nat.le_refl _) (Ret.same (by simp) hk))
  | cons x xs =>
    refine acalls Tryz.func43 rfl (by kernel_rfl) (by simp (disch := first | omega | (simp only [go_sem]; first | done | omega)) only [go_sem]) (fun hH => ?_)
    simp (disch := first | omega | (simp only [go_sem]; first | done | omega)) only [go_sem]
    refine asome_i (fun b hb => ?_)
    subst hb
    simp (disch := first | omega | (simp only [go_sem]; first | done | omega)) only [go_sem]
    refine app_lst ?_
    simp only [List.length_cons] at hl
    simp (disch := first | omega | (simp only [go_sem]; first | done | omega)) only [go_sem]
    refine Ret.pick [1] hH (Nat.le_refl _) (L := [.row 77 11 ((x :: xs).map encF) true]) rfl (by simp) (by simp [AObj.pureO, pureL, encF, AC.pure]) (v' := .c (.sl (some (H.length, 0)) (xs.length + 1))) ?_ (by simp [AV.ok, AV.ok1, AC.ok]) (by simpa [clV, grO] using hk)
    simp [AV.ren, AV.ren1, AC.ren, pickS]
theorem indexRowFx_a (f : FuncId) (caps : List (Nat × Nat × Nat)) (p : Fix → Bool) (he : entersB Tryz.prog f = true) (hc : ∀ (a b c : Nat), (a, b, c) ∈ caps → a < H.length) {i ty n : Nat} {own : Bool} (l : List Fix) (hi : H[i]? = some (.row ty 11 (l.map encF) own)) (hn : n = l.length) (hf : ∀ (x : Fix) (K : AV → Hp → Prop), x ∈ l → K (.c (.bool (p x))) H → ACalls Tryz.prog f (.agg (encF x) :: caps.map fun q => .c (.ptr (some q))) H K) (hlen : l.length ≤ 1099511627776)
    (hk0 : l.any p = false → K (.c (.int .i64 (-1))) H) (hk1 : ∀ k : Nat, (h : k < l.length) → p l[k] = true → (∀ j (h : j < l.length), j < k → p l[j] = false) → K (.c (.int .i64 k)) H) : ACalls Tryz.prog 116 [.c (.sl (some (i, 0)) n), .c (.fn f [] caps)] H K := by
  subst hn
  have hilt := getElem?_lt hi
  refine acalls Tryz.func116 rfl (by kernel_rfl) (by simp (disch := first | omega | (simp only [go_sem]; first | done | omega)) only [go_sem]) (fun hH => ?_)
  simp (disch := first | omega | (simp only [go_sem]; first | done | omega)) only [go_sem]
  refine AWp.loop (H.length) [0, 1, 7] [8] (fun (k : Nat) => k ≤ l.length ∧ ∀ j (h : j < l.length), j < k → p l[j] = false) (fun (k : Nat) => [(8, (.c (.int .i64 k)))]) (fun (k : Nat) => H) (fun (k : Nat) => l.length - k) (by kernel_rfl) (fun _ => rfl) (by kernel_rfl) (by first | (simp; done) | omega) (by first | (simp; done) | (simp; omega) | omega) (by (try simp only [List.forall_mem_cons, List.not_mem_nil, false_implies, implies_true, and_true]); (try simp (disch := first | omega | (simp only [go_sem]; first | done | omega)) only [go_sem]); all_goals first | trivial | (simp [AV.ok, AV.ok1, AC.ok]; done) | (simp [AV.ok, AV.ok1, AC.ok]; omega) | (simp [AV.ok, AV.ok1, AC.ok]; assumption) | ((repeat' apply And.intro) <;> first | trivial | (simp [AV.ok, AV.ok1, AC.ok]; done) | (simp [AV.ok, AV.ok1, AC.ok]; omega) | (simp [AV.ok, AV.ok1, AC.ok]; assumption) | (refine grV_ok ?_ _; first | (simp; done) | (simp; omega) | omega))) ?_ (fun k hk1' _ _ => ?_)
  · exact Next.mk 0 (by simp) (by (try simp (disch := first | omega | (simp only [go_sem]; first | done | omega)) only [go_sem]); (first | refine WkL.eq ?_ ?_ | refine WkL.rest (by assumption) ?_ ?_ ?_ | refine WkL.keepL (by assumption) rfl ?_ ?_ ?_ ?_) <;> first | rfl | (simp; done) | (simp; omega) | (simp only [List.cons.injEq, AV.c.injEq, AC.int.injEq, AC.bool.injEq, AC.str.injEq, and_true, true_and, Int.natCast_add, Int.natCast_one, Int.cast_ofNat_Int]; omega) | (simp [AV.ok, AV.ok1, AC.ok]; done) | (simp [AV.ok, AV.ok1, AC.ok]; omega) | (simp only [List.forall_mem_cons, List.not_mem_nil, false_implies, implies_true, and_true]; (repeat' apply And.intro) <;> first | exact okN_map (fun x => by simp [go_sem, AC.pure]) | exact okN_grO (fun x => by simp [go_sem, AC.pure]) | (simp [AObj.okN, AC.ok]; done) | (simp [AObj.okN, AC.ok]; omega)) | (simp [*]; done) | grind)
  obtain ⟨hk1', hk2⟩ := hk1'
  by_cases hlt : k < l.length
  · simp (disch := first | omega | (simp only [go_sem]; first | done | omega)) only [go_sem, he, hi]
    refine hf l[k] _ (List.getElem_mem hlt) ?_
    simp (disch := first | omega | (simp only [go_sem]; first | done | omega)) only [go_sem]
    refine acond_b (fun c => ?_) (fun c => ?_)
    · simp (disch := first | omega | (simp only [go_sem]; first | done | omega)) only [go_sem]
      exact Ret.same (Nat.le_refl _) (hk1 k hlt c hk2)
    · simp (disch := first | omega | (simp only [go_sem]; first | done | omega)) only [go_sem]
      refine Next.mk (k + 1) ⟨⟨by omega, fun j h hj => ?_⟩, by omega⟩ (by (try simp (disch := first | omega | (simp only [go_sem]; first | done | omega)) only [go_sem]); (first | refine WkL.eq ?_ ?_ | refine WkL.rest (by assumption) ?_ ?_ ?_ | refine WkL.keepL (by assumption) rfl ?_ ?_ ?_ ?_) <;> first | rfl | (simp; done) | (simp; omega) | (simp only [List.cons.injEq, AV.c.injEq, AC.int.injEq, AC.bool.injEq, AC.str.injEq, and_true, true_and, Int.natCast_add, Int.natCast_one, Int.cast_ofNat_Int]; omega) | (simp [AV.ok, AV.ok1, AC.ok]; done) | (simp [AV.ok, AV.ok1, AC.ok]; omega) | (simp only [List.forall_mem_cons, List.not_mem_nil, false_implies, implies_true, and_true]; (repeat' apply And.intro) <;> first | exact okN_map (fun x => by simp [go_sem, AC.pure]) | exact okN_grO (fun x => by simp [go_sem, AC.pure]) | (simp [AObj.okN, AC.ok]; done) | (simp [AObj.okN, AC.ok]; omega)) | (simp [*]; done) | grind)
      rcases Nat.lt_or_ge j k with h1 | h1
      · exact hk2 j h h1
      · obtain rfl : j = k := by omega
        simpa using c
  · simp (disch := first | omega | (simp only [go_sem]; first | done | omega)) only [go_sem]
    refine Ret.same (Nat.le_refl _) (hk0 ?_)
    rw [List.any_eq_false]
    intro x hx
    obtain ⟨j, hj, rfl⟩ := List.getElem_of_mem hx
    simpa using hk2 j hj (by omega)
theorem deleteFx_a (f : FuncId) (caps : List (Nat × Nat × Nat)) (p : Fix → Bool) (he : entersB Tryz.prog f = true) (hc : ∀ (a b c : Nat), (a, b, c) ∈ caps → a < H.length) {i n : Nat} (hci : ∀ (a b c : Nat), (a, b, c) ∈ caps → a ≠ i) (l : List Fix) (hi : H[i]? = some (.row 77 11 (l.map encF) true)) (hn : n = l.length) (hf : ∀ (G : Hp) (x : Fix) (K : AV → Hp → Prop), (∀ (a b c : Nat), (a, b, c) ∈ caps → G[a]? = H[a]?) → x ∈ l → K (.c (.bool (p x))) G → ACalls Tryz.prog f (.agg (encF x) :: caps.map fun q => .c (.ptr (some q))) G K) (hlen : l.length ≤ 1000000)
    (hk : K (.c (.lst 11 ((l.filter (fun x => !p x)).map encF))) (H.set i .dead)) : ACalls Tryz.prog 121 [.c (.sl (some (i, 0)) n), .c (.fn f [] caps)] H K := by
  subst hn
  have hilt := getElem?_lt hi
  refine acalls Tryz.func121 rfl (by kernel_rfl) (by simp (disch := first | omega | (simp only [go_sem]; first | done | omega)) only [go_sem]) (fun hH => ?_)
  simp (disch := first | omega | (simp only [go_sem]; first | done | omega)) only [go_sem]
  refine indexRowFx_a f caps p he hc l hi rfl (fun x K hx hK => hf H x K (fun _ _ _ _ => rfl) hx hK) (by omega) (fun h0 => ?_) (fun q hq hpq hbe => ?_)
  · simp (disch := first | omega | (simp only [go_sem]; first | done | omega)) only [go_sem]
    have e : l.filter (fun x => !p x) = l := by
      rw [List.filter_eq_self]
      intro x hx
      have := List.any_eq_false.1 h0 x hx
      simpa using this
    rw [e] at hk
    refine Ret.frzDead hi (pureL_map _ (fun x => by simp [go_sem, AC.pure])) (by simp) (Nat.le_refl _) ?_
    rw [List.take_of_length_le (by simp)]
    exact hk
  · have hfq : (l.take q).filter (fun x => !p x) = l.take q := by
      rw [List.filter_eq_self]
      intro x hx
      obtain ⟨j, hj, rfl⟩ := List.getElem_of_mem hx
      rw [List.length_take] at hj
      rw [List.getElem_take, hbe j (by omega) (by omega)]
      rfl
    have hfq1 : (l.take (q + 1)).filter (fun x => !p x) = l.take q := by
      rw [List.take_succ_eq_append_getElem hq, List.filter_append, hfq]
      simp [hpq]
    simp (disch := first | omega | (simp only [go_sem]; first | done | omega)) only [go_sem]
    refine AWp.loop (H.length) [0, 1] [6, 5] (fun (s : Nat × List Fix) => q + 1 ≤ s.1 ∧ s.1 ≤ l.length ∧ s.2.length = l.length ∧ ((l.take s.1).filter (fun x => !p x)).length < s.1 ∧ s.2.take ((l.take s.1).filter (fun x => !p x)).length = (l.take s.1).filter (fun x => !p x) ∧ s.2.drop s.1 = l.drop s.1) (fun (s : Nat × List Fix) => [(6, (.c (.int .i64 (s.1)))), (5, (.c (.int .i64 (((l.take s.1).filter (fun x => !p x)).length))))]) (fun (s : Nat × List Fix) => H.set i (.row 77 11 (s.2.map encF) true)) (fun (s : Nat × List Fix) => l.length - s.1) (by kernel_rfl) (fun _ => rfl) (by kernel_rfl) (by first | (simp; done) | omega) (by first | (simp; done) | (simp; omega) | omega) (by (try simp only [List.forall_mem_cons, List.not_mem_nil, false_implies, implies_true, and_true]); (try simp (disch := first | omega | (simp only [go_sem]; first | done | omega)) only [go_sem]); all_goals first | trivial | (simp [AV.ok, AV.ok1, AC.ok]; done) | (simp [AV.ok, AV.ok1, AC.ok]; omega) | (simp [AV.ok, AV.ok1, AC.ok]; assumption) | ((repeat' apply And.intro) <;> first | trivial | (simp [AV.ok, AV.ok1, AC.ok]; done) | (simp [AV.ok, AV.ok1, AC.ok]; omega) | (simp [AV.ok, AV.ok1, AC.ok]; assumption) | (refine grV_ok ?_ _; first | (simp; done) | (simp; omega) | omega))) ?_ (fun s hs _ _ => ?_)
    · refine Next.mk (q + 1, l) ⟨Nat.le_refl _, by dsimp only; omega, rfl, by dsimp only; rw [hfq1, List.length_take]; omega, by dsimp only; rw [hfq1, List.length_take, Nat.min_eq_left (by omega)], rfl⟩ ?_
      have hlq : ((l.take (q + 1)).filter (fun x => !p x)).length = q := by rw [hfq1, List.length_take]; omega
      dsimp only
      rw [hlq, set_same hi]
      (try simp (disch := first | omega | (simp only [go_sem]; first | done | omega)) only [go_sem]); (first | refine WkL.eq ?_ ?_ | refine WkL.rest (by assumption) ?_ ?_ ?_ | refine WkL.keepL (by assumption) rfl ?_ ?_ ?_ ?_) <;> first | rfl | (simp; done) | (simp; omega) | (simp only [List.cons.injEq, AV.c.injEq, AC.int.injEq, AC.bool.injEq, AC.str.injEq, and_true, true_and, Int.natCast_add, Int.natCast_one, Int.cast_ofNat_Int]; omega) | (simp [AV.ok, AV.ok1, AC.ok]; done) | (simp [AV.ok, AV.ok1, AC.ok]; omega) | (simp only [List.forall_mem_cons, List.not_mem_nil, false_implies, implies_true, and_true]; (repeat' apply And.intro) <;> first | exact okN_map (fun x => by simp [go_sem, AC.pure]) | exact okN_grO (fun x => by simp [go_sem, AC.pure]) | (simp [AObj.okN, AC.ok]; done) | (simp [AObj.okN, AC.ok]; omega)) | (simp [*]; done) | grind
    obtain ⟨j, cur⟩ := s
    obtain ⟨s1, s2, s3, s4, s5, s6⟩ := hs
    dsimp only at s1 s2 s3 s4 s5 s6
    obtain ⟨g, hg⟩ : ∃ g, g = (l.take j).filter (fun x => !p x) := ⟨_, rfl⟩
    rw [← hg] at s4 s5 ⊢
    have hcaps : ∀ (o : AObj) (M : Hp) (a b c : Nat), (a, b, c) ∈ caps → (H.set i o ++ M)[a]? = H[a]? := fun o M a b c hm => by
      rw [List.getElem?_append_left (by rw [List.length_set]; exact hc a b c hm), List.getElem?_set_ne (Ne.symm (hci a b c hm))]
    by_cases hlt : j < l.length
    · have hjc : j < cur.length := by omega
      have hcj : cur[j] = l[j] := by
        have h1 := congrArg (fun z => z[0]?) s6
        simp only [List.getElem?_drop, Nat.add_zero] at h1
        rw [List.getElem?_eq_getElem hjc, List.getElem?_eq_getElem hlt] at h1
        exact Option.some.inj h1
      have hgc : g.length < cur.length := by omega
      have hnx : (l.take (j + 1)).filter (fun x => !p x) = g ++ (if p l[j] = true then [] else [l[j]]) := by
        rw [List.take_succ_eq_append_getElem hlt, List.filter_append, ← hg]
        congr 1
        by_cases c : p l[j] = true <;> simp [c]
      have hdr : ∀ v, (cur.set g.length v).drop (j + 1) = l.drop (j + 1) := fun v => by
        rw [List.drop_set_of_lt (by omega), ← List.drop_drop, s6, List.drop_drop]
      have hdr0 : cur.drop (j + 1) = l.drop (j + 1) := by rw [← List.drop_drop, s6, List.drop_drop]
      simp (disch := first | omega | (simp only [go_sem]; first | done | omega)) only [go_sem, he, hcj]
      refine hf _ l[j] _ (hcaps _ _) (List.getElem_mem hlt) ?_
      simp (disch := first | omega | (simp only [go_sem]; first | done | omega)) only [go_sem]
      refine acond_b (fun c => ?_) (fun c => ?_)
      · rw [if_pos c, List.append_nil] at hnx
        simp (disch := first | omega | (simp only [go_sem]; first | done | omega)) only [go_sem]
        refine Next.mk (j + 1, cur) ?_ ?_
        · dsimp only; rw [hnx]; exact ⟨⟨by omega, by omega, s3, by omega, s5, hdr0⟩, by omega⟩
        · dsimp only; rw [hnx]; (try simp (disch := first | omega | (simp only [go_sem]; first | done | omega)) only [go_sem]); (first | refine WkL.eq ?_ ?_ | refine WkL.rest (by assumption) ?_ ?_ ?_ | refine WkL.keepL (by assumption) rfl ?_ ?_ ?_ ?_) <;> first | rfl | (simp; done) | (simp; omega) | (simp only [List.cons.injEq, AV.c.injEq, AC.int.injEq, AC.bool.injEq, AC.str.injEq, and_true, true_and, Int.natCast_add, Int.natCast_one, Int.cast_ofNat_Int]; omega) | (simp [AV.ok, AV.ok1, AC.ok]; done) | (simp [AV.ok, AV.ok1, AC.ok]; omega) | (simp only [List.forall_mem_cons, List.not_mem_nil, false_implies, implies_true, and_true]; (repeat' apply And.intro) <;> first | exact okN_map (fun x => by simp [go_sem, AC.pure]) | exact okN_grO (fun x => by simp [go_sem, AC.pure]) | (simp [AObj.okN, AC.ok]; done) | (simp [AObj.okN, AC.ok]; omega)) | (simp [*]; done) | grind
      · rw [if_neg (by simp [c])] at hnx
        simp (disch := first | omega | (simp only [go_sem]; first | done | omega)) only [go_sem]
        have hset : (cur.map encF).set g.length (encF l[j]) = (cur.set g.length l[j]).map encF := by rw [List.map_set]
        simp only [encF] at hset
        refine Next.mk (j + 1, cur.set g.length l[j]) ?_ ?_
        · dsimp only
          rw [hnx]
          refine ⟨⟨by omega, by omega, by simpa using s3, by simp; omega, ?_, hdr _⟩, by omega⟩
          rw [List.length_append, List.length_singleton, List.take_succ_eq_append_getElem (by simpa using hgc), List.getElem_set_self]
          congr 1
          rw [List.take_set_of_le (Nat.le_refl _)]
          exact s5
        · dsimp only
          have hok2 : HOk (H.set i (.row 77 11 ((cur.set g.length l[j]).map encF) true)) := HOk.set hH (okN_map (fun x => by simp [go_sem, AC.pure]))
          rw [hnx, ← hset]
          rw [← hset] at hok2
          (try simp (disch := first | omega | (simp only [go_sem]; first | done | omega)) only [go_sem]); (first | refine WkL.eq ?_ ?_ | refine WkL.rest (by assumption) ?_ ?_ ?_ | refine WkL.keepL (by assumption) rfl ?_ ?_ ?_ ?_) <;> first | rfl | (simp; done) | (simp; omega) | (simp only [List.cons.injEq, AV.c.injEq, AC.int.injEq, AC.bool.injEq, AC.str.injEq, and_true, true_and, Int.natCast_add, Int.natCast_one, Int.cast_ofNat_Int]; omega) | (simp [AV.ok, AV.ok1, AC.ok]; done) | (simp [AV.ok, AV.ok1, AC.ok]; omega) | (simp only [List.forall_mem_cons, List.not_mem_nil, false_implies, implies_true, and_true]; (repeat' apply And.intro) <;> first | exact okN_map (fun x => by simp [go_sem, AC.pure]) | exact okN_grO (fun x => by simp [go_sem, AC.pure]) | (simp [AObj.okN, AC.ok]; done) | (simp [AObj.okN, AC.ok]; omega)) | (simp [*]; done) | grind
    · have hjl : j = l.length := by omega
      subst hjl
      rw [List.take_length] at hg
      rw [← hg] at hk
      simp (disch := first | omega | (simp only [go_sem]; first | done | omega)) only [go_sem]
      refine aclr_pos _ _ (List.getElem?_set_self hilt) (by omega) rfl (by simp; omega) ?_
      rw [List.set_set, ← List.map_take, s5]
      simp (disch := first | omega | (simp only [go_sem]; first | done | omega)) only [go_sem]
      refine Ret.frzDead (List.getElem?_set_self hilt) (pureL_map _ (fun x => by simp [go_sem, AC.pure])) (by simp) (by simp) ?_
      rw [List.set_set, List.take_of_length_le (by simp)]
      exact hk
theorem indexNilFx_a (f : FuncId) (caps : List (Nat × Nat × Nat)) (hk : K (.c (.int .i64 (-1))) H) : ACalls Tryz.prog 116 [.c (.lst 11 []), .c (.fn f [] caps)] H K := by
  refine acalls Tryz.func116 rfl (by kernel_rfl) (by simp (disch := first | omega | (simp only [go_sem]; first | done | omega)) only [go_sem]) (fun hH => ?_)
  simp (disch := first | omega | (simp only [go_sem]; first | done | omega)) only [go_sem]
  refine AWp.rounds 0 (by kernel_rfl) ?_
  simp (disch := first | omega | (simp only [go_sem]; first | done | omega)) only [go_sem]
  exact Ret.same (Nat.le_refl _) hk
theorem deleteNilFx_a (f : FuncId) (caps : List (Nat × Nat × Nat)) (hk : K (.c (.lst 11 [])) H) : ACalls Tryz.prog 121 [.c (.lst 11 []), .c (.fn f [] caps)] H K := by
  refine acalls Tryz.func121 rfl (by kernel_rfl) (by simp (disch := first | omega | (simp only [go_sem]; first | done | omega)) only [go_sem]) (fun hH => ?_)
  simp (disch := first | omega | (simp only [go_sem]; first | done | omega)) only [go_sem]
  refine indexNilFx_a f caps ?_
  simp (disch := first | omega | (simp only [go_sem]; first | done | omega)) only [go_sem]
  exact Ret.same (Nat.le_refl _) hk
/-- what was cloned, or what grew -/
theorem deleteClFx_a (f : FuncId) (caps : List (Nat × Nat × Nat)) (p : Fix → Bool) (he : entersB Tryz.prog f = true) (hc : ∀ (a b c : Nat), (a, b, c) ∈ caps → a < H.length) {i : Nat} (hci : ∀ (a b c : Nat), (a, b, c) ∈ caps → a ≠ i) (l : List Fix) (hi : H[i]? = some (grO 77 11 (l.map encF))) (hf : ∀ (G : Hp) (x : Fix) (K : AV → Hp → Prop), (∀ (a b c : Nat), (a, b, c) ∈ caps → G[a]? = H[a]?) → x ∈ l → K (.c (.bool (p x))) G → ACalls Tryz.prog f (.agg (encF x) :: caps.map fun q => .c (.ptr (some q))) G K) (hlen : l.length ≤ 1000000)
    (hk : K (.c (.lst 11 ((l.filter (fun x => !p x)).map encF))) (H.set i .dead)) : ACalls Tryz.prog 121 [.c (clV i 11 (l.map encF)), .c (.fn f [] caps)] H K := by
  cases l with
  | nil =>
    rw [set_same (o := .dead) hi] at hk
    exact deleteNilFx_a f caps hk
  | cons x xs => exact deleteFx_a f caps p he hc hci (x :: xs) hi (by simp) hf hlen hk
theorem ovDel_a (x : Fix) (a : Int) {i ty : Nat} {own : Bool} (hi : H[i]? = some (.row ty 1 [[.int .i64 a]] own)) (hk : K (.c (.bool (decide (a < x.made)))) H) : ACalls Tryz.prog 122 [.agg (encF x), .c (.ptr (some (i, 0, 0)))] H K := by
  have hilt := getElem?_lt hi
  refine acalls Tryz.func122 rfl (by kernel_rfl) (by simp (disch := first | omega | (simp only [go_sem]; first | done | omega)) only [go_sem]) (fun hH => ?_)
  simp (disch := first | omega | (simp only [go_sem]; first | done | omega)) only [go_sem, hi]
  exact Ret.drop hH (Nat.le_refl _) trivial hk
theorem overriddenOf_a (l : List Fix) (a : Int) (hl : l.length ≤ 1000) (hk : K (.c (.lst 1 ((dvF (l.filter fun x => !decide (a < x.made)) (l.filter fun x => !decide (a < x.made)).length).map encI))) H) : ACalls Tryz.prog 54 [.c (.lst 11 (l.map encF)), (.c (.int .i64 a))] H K := by
  have hgl := List.length_filter_le (fun x : Fix => !decide (a < x.made)) l
  refine acalls Tryz.func54 rfl (by kernel_rfl) (by simp (disch := first | omega | (simp only [go_sem]; first | done | omega)) only [go_sem]) (fun hH => ?_)
  simp (disch := first | omega | (simp only [go_sem]; first | done | omega)) only [go_sem]
  refine cloneFx_a l (by omega) ?_
  simp (disch := first | omega | (simp only [go_sem]; first | done | omega)) only [go_sem]
  refine deleteClFx_a 122 [(H.length, 0, 0)] (fun x => decide (a < x.made)) (by kernel_rfl) (by intro a b c hm; simp at hm; (try simp); omega) (by intro a b c hm; simp at hm; (try simp); omega) l (by first | ((repeat first | exact at0 (by simp) | refine atS ?_); done) | assumption) (fun G x K hG _ hK => ovDel_a x a ((hG _ _ _ (List.Mem.head _)).trans (by first | ((repeat first | exact at0 (by simp) | refine atS ?_); done) | assumption)) hK) (by omega) ?_
  generalize l.filter (fun x => !decide (a < x.made)) = f at *
  simp (disch := first | omega | (simp only [go_sem]; first | done | omega)) only [go_sem]
  refine AWp.loop (H.length) [0, 13] [14, 5] (fun (i : Nat) => i ≤ f.length) (fun (i : Nat) => [(14, (.c (.int .i64 i))), (5, .c (grV H.length (dvF f i)))]) (fun (i : Nat) => H ++ [grO 3 1 ((dvF f i).map encI)]) (fun (i : Nat) => f.length - i) (by kernel_rfl) (fun _ => rfl) (by kernel_rfl) (by first | (simp; done) | omega) (by first | (simp; done) | (simp; omega) | omega) (by (try simp only [List.forall_mem_cons, List.not_mem_nil, false_implies, implies_true, and_true]); (try simp (disch := first | omega | (simp only [go_sem]; first | done | omega)) only [go_sem]); all_goals first | trivial | (simp [AV.ok, AV.ok1, AC.ok]; done) | (simp [AV.ok, AV.ok1, AC.ok]; omega) | (simp [AV.ok, AV.ok1, AC.ok]; assumption) | ((repeat' apply And.intro) <;> first | trivial | (simp [AV.ok, AV.ok1, AC.ok]; done) | (simp [AV.ok, AV.ok1, AC.ok]; omega) | (simp [AV.ok, AV.ok1, AC.ok]; assumption) | (refine grV_ok ?_ _; first | (simp; done) | (simp; omega) | omega))) ?_ (fun i q1 _ _ => ?_)
  · refine Next.mk 0 (Nat.zero_le _) ?_
    refine WkL.trans (H1 := H) (vs1 := [.c (.int .i64 0), .c (.sl none 0)]) (WkL.rest hH (Nat.le_refl _) (by rfl) (by simp [AV.ok, AV.ok1, AC.ok])) ?_
    exact WkL.pad (Nat.le_refl _)
  by_cases hlt : i < f.length
  · obtain ⟨x, hx⟩ : ∃ x, x = f[i] := ⟨_, rfl⟩
    have hnx := dvF_next hlt
    have hol := dvF_len f i
    rw [← hx] at hnx
    generalize dvF f i = L at *
    simp (disch := first | omega | (simp only [go_sem]; first | done | omega)) only [go_sem, hlt]
    refine AWp.loop (H.length) [0, 6, 13, 14] [7, 5] (fun (k : Nat) => i + 1 ≤ k ∧ k ≤ f.length ∧ exG x ((f.drop (i + 1)).take (k - (i + 1))) (f.drop k) = exG x [] (f.drop (i + 1))) (fun (k : Nat) => [(7, (.c (.int .i64 k))), (5, .c (grV H.length L))]) (fun (k : Nat) => H ++ [grO 3 1 (L.map encI)]) (fun (k : Nat) => f.length - k) (by kernel_rfl) (fun _ => rfl) (by kernel_rfl) (by first | (simp; done) | omega) (by first | (simp; done) | (simp; omega) | omega) (by (try simp only [List.forall_mem_cons, List.not_mem_nil, false_implies, implies_true, and_true]); (try simp (disch := first | omega | (simp only [go_sem]; first | done | omega)) only [go_sem]); all_goals first | trivial | (simp [AV.ok, AV.ok1, AC.ok]; done) | (simp [AV.ok, AV.ok1, AC.ok]; omega) | (simp [AV.ok, AV.ok1, AC.ok]; assumption) | ((repeat' apply And.intro) <;> first | trivial | (simp [AV.ok, AV.ok1, AC.ok]; done) | (simp [AV.ok, AV.ok1, AC.ok]; omega) | (simp [AV.ok, AV.ok1, AC.ok]; assumption) | (refine grV_ok ?_ _; first | (simp; done) | (simp; omega) | omega))) ?_ (fun k hk' _ _ => ?_)
    · refine Next.mk (i + 1) ⟨Nat.le_refl _, by omega, by rw [Nat.sub_self, List.take_zero]⟩ ?_
      (try simp (disch := first | omega | (simp only [go_sem]; first | done | omega)) only [go_sem]); (first | refine WkL.eq ?_ ?_ | refine WkL.rest (by assumption) ?_ ?_ ?_ | refine WkL.keepL (by assumption) rfl ?_ ?_ ?_ ?_) <;> first | rfl | (simp; done) | (simp; omega) | (simp only [List.cons.injEq, AV.c.injEq, AC.int.injEq, AC.bool.injEq, AC.str.injEq, and_true, true_and, Int.natCast_add, Int.natCast_one, Int.cast_ofNat_Int]; omega) | (simp [AV.ok, AV.ok1, AC.ok]; done) | (simp [AV.ok, AV.ok1, AC.ok]; omega) | (simp only [List.forall_mem_cons, List.not_mem_nil, false_implies, implies_true, and_true]; (repeat' apply And.intro) <;> first | exact okN_map (fun x => by simp [go_sem, AC.pure]) | exact okN_grO (fun x => by simp [go_sem, AC.pure]) | (simp [AObj.okN, AC.ok]; done) | (simp [AObj.okN, AC.ok]; omega)) | (simp [*]; done) | grind
    obtain ⟨k1, k2, k3⟩ := hk'
    by_cases hk2 : k < f.length
    · obtain ⟨y, hy⟩ : ∃ y, y = f[k] := ⟨_, rfl⟩
      have hs := exG_next (x := x) hk2 (show i < k by omega)
      rw [k3, ← hy] at hs
      simp (disch := first | omega | (simp only [go_sem]; first | done | omega)) only [go_sem, hk2]
      refine overrides_a f i k x y (by omega) hk2 hx hy (by omega) ?_
      cases c : ovrB x y ((f.drop (i + 1)).take (k - (i + 1))) with
      | true =>
        rw [c, Bool.true_or] at hs
        rw [hs, if_pos rfl] at hnx
        simp (disch := first | omega | (simp only [go_sem]; first | done | omega)) only [go_sem]
        refine appI L (i : Int) _ hnx (by first | ((repeat first | exact at0 (by simp) | refine atS ?_); done) | assumption) (by first | ((repeat first | exact at0 (by simp) | refine atS ?_); done) | assumption) (by omega) ?_
        simp (disch := first | omega | (simp only [go_sem]; first | done | omega)) only [go_sem]
        refine Next.mk (i + 1) ⟨by omega, by omega⟩ ?_
        ((try simp (disch := first | omega | (simp only [go_sem]; first | done | omega)) only [go_sem]); (first | refine WkL.pick [0] ?_ ?_ rfl ?_ ?_ ?_ ?_ | refine WkL.pick [1] ?_ ?_ rfl ?_ ?_ ?_ ?_ | refine WkL.pick [2] ?_ ?_ rfl ?_ ?_ ?_ ?_ | refine WkL.pick [3] ?_ ?_ rfl ?_ ?_ ?_ ?_ | refine WkL.pick [4] ?_ ?_ rfl ?_ ?_ ?_ ?_ | refine WkL.pick [5] ?_ ?_ rfl ?_ ?_ ?_ ?_ | refine WkL.pick [6] ?_ ?_ rfl ?_ ?_ ?_ ?_ | refine WkL.pick [7] ?_ ?_ rfl ?_ ?_ ?_ ?_ | refine WkL.pick [8] ?_ ?_ rfl ?_ ?_ ?_ ?_ | refine WkL.pick [9] ?_ ?_ rfl ?_ ?_ ?_ ?_ | refine WkL.pick [10] ?_ ?_ rfl ?_ ?_ ?_ ?_ | refine WkL.pick [11] ?_ ?_ rfl ?_ ?_ ?_ ?_ | refine WkL.pick [12] ?_ ?_ rfl ?_ ?_ ?_ ?_ | refine WkL.pick [13] ?_ ?_ rfl ?_ ?_ ?_ ?_ | refine WkL.pick [14] ?_ ?_ rfl ?_ ?_ ?_ ?_ | refine WkL.pick [15] ?_ ?_ rfl ?_ ?_ ?_ ?_) <;> first | assumption | exact HOk.str (by assumption) | (simp; done) | (simp; omega) | (simp [pureO_gr, AObj.pureO, pureL, go_sem, AC.pure]; done) | (simp only [List.all_cons, List.all_nil, Bool.and_true]; exact pureO_gr (pureL_map _ (fun x => by simp [go_sem, AC.pure]))) | ((try simp only [List.map_cons, List.map_nil, av_ren_gr]); simp [AV.ren, AV.ren1, AC.ren, renP, pickS]; first | done | omega) | (simp only [List.forall_mem_cons, List.not_mem_nil, false_implies, implies_true, and_true]; (repeat' apply And.intro) <;> first | trivial | exact grV_ok (by simp) _ | exact okN_grO (fun x => by simp [go_sem, AC.pure]) | exact okN_map (fun x => by simp [go_sem, AC.pure]) | (simp [AV.ok, AV.ok1, AC.ok]; done) | (simp [AV.ok, AV.ok1, AC.ok]; omega) | (simp [AObj.okN, AC.ok]; done)) | (simp [AObj.okN]; done))
      | false =>
        rw [c, Bool.false_or] at hs
        simp (disch := first | omega | (simp only [go_sem]; first | done | omega)) only [go_sem]
        refine Next.mk (k + 1) ⟨⟨by omega, by omega, hs.symm⟩, by omega⟩ ?_
        (try simp (disch := first | omega | (simp only [go_sem]; first | done | omega)) only [go_sem]); (first | refine WkL.eq ?_ ?_ | refine WkL.rest (by assumption) ?_ ?_ ?_ | refine WkL.keepL (by assumption) rfl ?_ ?_ ?_ ?_) <;> first | rfl | (simp; done) | (simp; omega) | (simp only [List.cons.injEq, AV.c.injEq, AC.int.injEq, AC.bool.injEq, AC.str.injEq, and_true, true_and, Int.natCast_add, Int.natCast_one, Int.cast_ofNat_Int]; omega) | (simp [AV.ok, AV.ok1, AC.ok]; done) | (simp [AV.ok, AV.ok1, AC.ok]; omega) | (simp only [List.forall_mem_cons, List.not_mem_nil, false_implies, implies_true, and_true]; (repeat' apply And.intro) <;> first | exact okN_map (fun x => by simp [go_sem, AC.pure]) | exact okN_grO (fun x => by simp [go_sem, AC.pure]) | (simp [AObj.okN, AC.ok]; done) | (simp [AObj.okN, AC.ok]; omega)) | (simp [*]; done) | grind
    · rw [List.drop_eq_nil_of_le (show f.length ≤ k by omega)] at k3
      have e : exG x [] (f.drop (i + 1)) = false := by rw [← k3]; rfl
      rw [e, if_neg (by simp), List.append_nil] at hnx
      simp (disch := first | omega | (simp only [go_sem]; first | done | omega)) only [go_sem, hk2]
      refine Next.mk (i + 1) ⟨by omega, by omega⟩ ?_
      rw [hnx]
      ((try simp (disch := first | omega | (simp only [go_sem]; first | done | omega)) only [go_sem]); (first | refine WkL.pick [0] ?_ ?_ rfl ?_ ?_ ?_ ?_ | refine WkL.pick [1] ?_ ?_ rfl ?_ ?_ ?_ ?_ | refine WkL.pick [2] ?_ ?_ rfl ?_ ?_ ?_ ?_ | refine WkL.pick [3] ?_ ?_ rfl ?_ ?_ ?_ ?_ | refine WkL.pick [4] ?_ ?_ rfl ?_ ?_ ?_ ?_ | refine WkL.pick [5] ?_ ?_ rfl ?_ ?_ ?_ ?_ | refine WkL.pick [6] ?_ ?_ rfl ?_ ?_ ?_ ?_ | refine WkL.pick [7] ?_ ?_ rfl ?_ ?_ ?_ ?_ | refine WkL.pick [8] ?_ ?_ rfl ?_ ?_ ?_ ?_ | refine WkL.pick [9] ?_ ?_ rfl ?_ ?_ ?_ ?_ | refine WkL.pick [10] ?_ ?_ rfl ?_ ?_ ?_ ?_ | refine WkL.pick [11] ?_ ?_ rfl ?_ ?_ ?_ ?_ | refine WkL.pick [12] ?_ ?_ rfl ?_ ?_ ?_ ?_ | refine WkL.pick [13] ?_ ?_ rfl ?_ ?_ ?_ ?_ | refine WkL.pick [14] ?_ ?_ rfl ?_ ?_ ?_ ?_ | refine WkL.pick [15] ?_ ?_ rfl ?_ ?_ ?_ ?_) <;> first | assumption | exact HOk.str (by assumption) | (simp; done) | (simp; omega) | (simp [pureO_gr, AObj.pureO, pureL, go_sem, AC.pure]; done) | (simp only [List.all_cons, List.all_nil, Bool.and_true]; exact pureO_gr (pureL_map _ (fun x => by simp [go_sem, AC.pure]))) | ((try simp only [List.map_cons, List.map_nil, av_ren_gr]); simp [AV.ren, AV.ren1, AC.ren, renP, pickS]; first | done | omega) | (simp only [List.forall_mem_cons, List.not_mem_nil, false_implies, implies_true, and_true]; (repeat' apply And.intro) <;> first | trivial | exact grV_ok (by simp) _ | exact okN_grO (fun x => by simp [go_sem, AC.pure]) | exact okN_map (fun x => by simp [go_sem, AC.pure]) | (simp [AV.ok, AV.ok1, AC.ok]; done) | (simp [AV.ok, AV.ok1, AC.ok]; omega) | (simp [AObj.okN, AC.ok]; done)) | (simp [AObj.okN]; done))
  · have hil : i = f.length := by omega
    subst hil
    simp (disch := first | omega | (simp only [go_sem]; first | done | omega)) only [go_sem]
    exact Ret.frzGr 0 hH (Nat.le_refl _) rfl (pureL_map _ (fun x => by simp [go_sem, AC.pure])) (map_grV _ _ _).symm hk
end Go.Proofs.YtgcjenfdndhhpaaGreat
