/- Several texts in one: Samples and bins deleted in place: what was cloned, what grew, and what follows. No condition. -/
import Derived.Test.YthbdhennkmpgbaaGreatDoorHVGF
import Derived.Test.YthbdhennkmpgbaaGreatDoorHVGC
import Derived.Test.YthbdhennkmpgbaaGreatDoorHVGA
import Derived.Test.YthbdhennkmpgbaaGreatDoorHVGE
/- Samples and bins deleted in place: what was cloned, what grew. No condition. -/
namespace Go.Proofs.YthbdhennkmpgbaaGreatDoor
open Go Go.RowKit
set_option maxRecDepth 100000
set_option linter.all false
set_option maxHeartbeats 1000000
variable {H : Hp} {K : AV → Hp → Prop}
theorem indexRowN_a (f : FuncId) (caps : List (Nat × Nat × Nat)) (p : Bin → Bool) (he : entersB Tryz.prog f = true) (hc : ∀ (a b c : Nat), (a, b, c) ∈ caps → a < H.length) {i ty n : Nat} {own : Bool} (l : List Bin) (hi : H[i]? = some (.row ty 6 (l.map encN) own)) (hn : n = l.length) (hf : ∀ (x : Bin) (K : AV → Hp → Prop), x ∈ l → K (.c (.bool (p x))) H → ACalls Tryz.prog f (.agg (encN x) :: caps.map fun q => .c (.ptr (some q))) H K) (hlen : l.length ≤ 1099511627776)
    (hk0 : l.any p = false → K (.c (.int .i64 (-1))) H) (hk1 : ∀ k : Nat, (h : k < l.length) → p l[k] = true → (∀ j (h : j < l.length), j < k → p l[j] = false) → K (.c (.int .i64 k)) H) : ACalls Tryz.prog 47 [.c (.sl (some (i, 0)) n), .c (.fn f [] caps)] H K := by
  subst hn
  have hilt := getElem?_lt hi
  refine acalls Tryz.func47 rfl (by kernel_rfl) (by simp (disch := first | omega | (simp only [go_sem]; first | done | omega)) only [go_sem]) (fun hH => ?_)
  simp (disch := first | omega | (simp only [go_sem]; first | done | omega)) only [go_sem]
  refine AWp.loop (H.length) [0, 1, 7] [8] (fun (k : Nat) => k ≤ l.length ∧ ∀ j (h : j < l.length), j < k → p l[j] = false) (fun (k : Nat) => [(8, (.c (.int .i64 k)))]) (fun (k : Nat) => H) (fun (k : Nat) => l.length - k) (by kernel_rfl) (fun _ => rfl) (by kernel_rfl) (by simp) (by first | (simp; done) | (simp; omega)) (by (try simp only [List.forall_mem_cons, List.not_mem_nil, false_implies, implies_true, and_true]); (try simp (disch := first | omega | (simp only [go_sem]; first | done | omega)) only [go_sem]); all_goals first | trivial | (simp [AV.ok, AV.ok1, AC.ok]; done) | (simp [AV.ok, AV.ok1, AC.ok]; omega) | (simp [AV.ok, AV.ok1, AC.ok]; assumption) | ((repeat' apply And.intro) <;> first | trivial | (simp [AV.ok, AV.ok1, AC.ok]; done) | (simp [AV.ok, AV.ok1, AC.ok]; omega) | (simp [AV.ok, AV.ok1, AC.ok]; assumption) | (refine grV_ok ?_ _; first | (simp; done) | (simp; omega) | omega))) ?_ (fun k hk1' _ _ => ?_)
  · exact Next.mk 0 (by simp) (by (try simp (disch := first | omega | (simp only [go_sem]; first | done | omega)) only [go_sem]); (first | refine WkL.eq ?_ ?_ | refine WkL.rest (by assumption) ?_ ?_ ?_ | refine WkL.keepL (by assumption) rfl ?_ ?_ ?_ ?_) <;> first | rfl | (simp; done) | (simp; omega) | (simp only [List.cons.injEq, AV.c.injEq, AC.int.injEq, AC.bool.injEq, AC.str.injEq, and_true, true_and, Int.natCast_add, Int.natCast_one, Int.cast_ofNat_Int]; omega) | (simp [AV.ok, AV.ok1, AC.ok]; done) | (simp [AV.ok, AV.ok1, AC.ok]; omega) | (simp only [List.forall_mem_cons, List.not_mem_nil, false_implies, implies_true, and_true]; (repeat' apply And.intro) <;> first | exact okN_map (fun x => by simp [go_sem, AC.pure]) | exact okN_grO (fun x => by simp [go_sem, AC.pure]) | (simp [AObj.okN, AC.ok]; done) | (simp [AObj.okN, AC.ok]; omega)) | (simp [*]; done) | grind)
  obtain ⟨hk1', hk2⟩ := hk1'
  by_cases hlt : k < l.length
  · simp (disch := first | omega | (simp only [go_sem]; first | done | omega)) only [go_sem, he, hi]
    refine hf l[k] _ (List.getElem_mem hlt) ?_
    simp (disch := first | omega | (simp only [go_sem]; first | done | omega)) only [go_sem]
    refine acond_b (fun c => ?_) (fun c => ?_)
    · simp (disch := first | omega | (simp only [go_sem]; first | done | omega)) only [go_sem]
      exact Ret.same (Nat.le_refl _) (hk1 k hlt c hk2)
    · simp (disch := first | omega | (simp only [go_sem]; first | done | omega)) only [go_sem]
      refine Next.mk (k + 1) ⟨⟨by omega, fun j h hj => ?_⟩, by omega⟩ (by (try simp (disch := first | omega | (simp only [go_sem]; first | done | omega)) only [go_sem]); (first | refine WkL.eq ?_ ?_ | refine WkL.rest (by assumption) ?_ ?_ ?_ | refine WkL.keepL (by assumption) rfl ?_ ?_ ?_ ?_) <;> first | rfl | (simp; done) | (simp; omega) | (simp only [List.cons.injEq, AV.c.injEq, AC.int.injEq, AC.bool.injEq, AC.str.injEq, and_true, true_and, Int.natCast_add, Int.natCast_one, Int.cast_ofNat_Int]; omega) | (simp [AV.ok, AV.ok1, AC.ok]; done) | (simp [AV.ok, AV.ok1, AC.ok]; omega) | (simp only [List.forall_mem_cons, List.not_mem_nil, false_implies, implies_true, and_true]; (repeat' apply And.intro) <;> first | exact okN_map (fun x => by simp [go_sem, AC.pure]) | exact okN_grO (fun x => by simp [go_sem, AC.pure]) | (simp [AObj.okN, AC.ok]; done) | (simp [AObj.okN, AC.ok]; omega)) | (simp [*]; done) | grind)
      rcases Nat.lt_or_ge j k with h1 | h1
      · exact hk2 j h h1
      · obtain rfl : j = k := by omega
        simpa using c
  · simp (disch := first | omega | (simp only [go_sem]; first | done | omega)) only [go_sem]
    refine Ret.same (Nat.le_refl _) (hk0 ?_)
    rw [List.any_eq_false]
    intro x hx
    obtain ⟨j, hj, rfl⟩ := List.getElem_of_mem hx
    simpa using hk2 j hj (by omega)
theorem deleteN_a (f : FuncId) (caps : List (Nat × Nat × Nat)) (p : Bin → Bool) (he : entersB Tryz.prog f = true) (hc : ∀ (a b c : Nat), (a, b, c) ∈ caps → a < H.length) {i n : Nat} (hci : ∀ (a b c : Nat), (a, b, c) ∈ caps → a ≠ i) (l : List Bin) (hi : H[i]? = some (.row 64 6 (l.map encN) true)) (hn : n = l.length) (hf : ∀ (G : Hp) (x : Bin) (K : AV → Hp → Prop), (∀ (a b c : Nat), (a, b, c) ∈ caps → G[a]? = H[a]?) → x ∈ l → K (.c (.bool (p x))) G → ACalls Tryz.prog f (.agg (encN x) :: caps.map fun q => .c (.ptr (some q))) G K) (hlen : l.length ≤ 1000000)
    (hk : K (.c (.lst 6 ((l.filter (fun x => !p x)).map encN))) (H.set i .dead)) : ACalls Tryz.prog 25 [.c (.sl (some (i, 0)) n), .c (.fn f [] caps)] H K := by
  subst hn
  have hilt := getElem?_lt hi
  refine acalls Tryz.func25 rfl (by kernel_rfl) (by simp (disch := first | omega | (simp only [go_sem]; first | done | omega)) only [go_sem]) (fun hH => ?_)
  simp (disch := first | omega | (simp only [go_sem]; first | done | omega)) only [go_sem]
  refine indexRowN_a f caps p he hc l hi rfl (fun x K hx hK => hf H x K (fun _ _ _ _ => rfl) hx hK) (by omega) (fun h0 => ?_) (fun q hq hpq hbe => ?_)
  · simp (disch := first | omega | (simp only [go_sem]; first | done | omega)) only [go_sem]
    have e : l.filter (fun x => !p x) = l := by
      rw [List.filter_eq_self]
      intro x hx
      have := List.any_eq_false.1 h0 x hx
      simpa using this
    rw [e] at hk
    refine Ret.frzDead hi (pureL_map _ (fun x => by simp [go_sem, AC.pure])) (by simp) (Nat.le_refl _) ?_
    rw [List.take_of_length_le (by simp)]
    exact hk
  · have hfq : (l.take q).filter (fun x => !p x) = l.take q := by
      rw [List.filter_eq_self]
      intro x hx
      obtain ⟨j, hj, rfl⟩ := List.getElem_of_mem hx
      rw [List.length_take] at hj
      rw [List.getElem_take, hbe j (by omega) (by omega)]
      rfl
    have hfq1 : (l.take (q + 1)).filter (fun x => !p x) = l.take q := by
      rw [List.take_succ_eq_append_getElem hq, List.filter_append, hfq]
      simp [hpq]
    simp (disch := first | omega | (simp only [go_sem]; first | done | omega)) only [go_sem]
    refine AWp.loop (H.length) [0, 1] [6, 5] (fun (s : Nat × List Bin) => q + 1 ≤ s.1 ∧ s.1 ≤ l.length ∧ s.2.length = l.length ∧ ((l.take s.1).filter (fun x => !p x)).length < s.1 ∧ s.2.take ((l.take s.1).filter (fun x => !p x)).length = (l.take s.1).filter (fun x => !p x) ∧ s.2.drop s.1 = l.drop s.1) (fun (s : Nat × List Bin) => [(6, (.c (.int .i64 (s.1)))), (5, (.c (.int .i64 (((l.take s.1).filter (fun x => !p x)).length))))]) (fun (s : Nat × List Bin) => H.set i (.row 64 6 (s.2.map encN) true)) (fun (s : Nat × List Bin) => l.length - s.1) (by kernel_rfl) (fun _ => rfl) (by kernel_rfl) (by simp) (by first | (simp; done) | (simp; omega)) (by (try simp only [List.forall_mem_cons, List.not_mem_nil, false_implies, implies_true, and_true]); (try simp (disch := first | omega | (simp only [go_sem]; first | done | omega)) only [go_sem]); all_goals first | trivial | (simp [AV.ok, AV.ok1, AC.ok]; done) | (simp [AV.ok, AV.ok1, AC.ok]; omega) | (simp [AV.ok, AV.ok1, AC.ok]; assumption) | ((repeat' apply And.intro) <;> first | trivial | (simp [AV.ok, AV.ok1, AC.ok]; done) | (simp [AV.ok, AV.ok1, AC.ok]; omega) | (simp [AV.ok, AV.ok1, AC.ok]; assumption) | (refine grV_ok ?_ _; first | (simp; done) | (simp; omega) | omega))) ?_ (fun s hs _ _ => ?_)
    · refine Next.mk (q + 1, l) ⟨Nat.le_refl _, by dsimp only; omega, rfl, by dsimp only; rw [hfq1, List.length_take]; omega, by dsimp only; rw [hfq1, List.length_take, Nat.min_eq_left (by omega)], rfl⟩ ?_
      have hlq : ((l.take (q + 1)).filter (fun x => !p x)).length = q := by rw [hfq1, List.length_take]; omega
      dsimp only
      rw [hlq, set_same hi]
      (try simp (disch := first | omega | (simp only [go_sem]; first | done | omega)) only [go_sem]); (first | refine WkL.eq ?_ ?_ | refine WkL.rest (by assumption) ?_ ?_ ?_ | refine WkL.keepL (by assumption) rfl ?_ ?_ ?_ ?_) <;> first | rfl | (simp; done) | (simp; omega) | (simp only [List.cons.injEq, AV.c.injEq, AC.int.injEq, AC.bool.injEq, AC.str.injEq, and_true, true_and, Int.natCast_add, Int.natCast_one, Int.cast_ofNat_Int]; omega) | (simp [AV.ok, AV.ok1, AC.ok]; done) | (simp [AV.ok, AV.ok1, AC.ok]; omega) | (simp only [List.forall_mem_cons, List.not_mem_nil, false_implies, implies_true, and_true]; (repeat' apply And.intro) <;> first | exact okN_map (fun x => by simp [go_sem, AC.pure]) | exact okN_grO (fun x => by simp [go_sem, AC.pure]) | (simp [AObj.okN, AC.ok]; done) | (simp [AObj.okN, AC.ok]; omega)) | (simp [*]; done) | grind
    obtain ⟨j, cur⟩ := s
    obtain ⟨s1, s2, s3, s4, s5, s6⟩ := hs
    dsimp only at s1 s2 s3 s4 s5 s6
    obtain ⟨g, hg⟩ : ∃ g, g = (l.take j).filter (fun x => !p x) := ⟨_, rfl⟩
    rw [← hg] at s4 s5 ⊢
    have hcaps : ∀ (o : AObj) (M : Hp) (a b c : Nat), (a, b, c) ∈ caps → (H.set i o ++ M)[a]? = H[a]? := fun o M a b c hm => by
      rw [List.getElem?_append_left (by rw [List.length_set]; exact hc a b c hm), List.getElem?_set_ne (Ne.symm (hci a b c hm))]
    by_cases hlt : j < l.length
    · have hjc : j < cur.length := by omega
      have hcj : cur[j] = l[j] := by
        have h1 := congrArg (fun z => z[0]?) s6
        simp only [List.getElem?_drop, Nat.add_zero] at h1
        rw [List.getElem?_eq_getElem hjc, List.getElem?_eq_getElem hlt] at h1
        exact Option.some.inj h1
      have hgc : g.length < cur.length := by omega
      have hnx : (l.take (j + 1)).filter (fun x => !p x) = g ++ (if p l[j] = true then [] else [l[j]]) := by
        rw [List.take_succ_eq_append_getElem hlt, List.filter_append, ← hg]
        congr 1
        by_cases c : p l[j] = true <;> simp [c]
      have hdr : ∀ v, (cur.set g.length v).drop (j + 1) = l.drop (j + 1) := fun v => by
        rw [List.drop_set_of_lt (by omega), ← List.drop_drop, s6, List.drop_drop]
      have hdr0 : cur.drop (j + 1) = l.drop (j + 1) := by rw [← List.drop_drop, s6, List.drop_drop]
      simp (disch := first | omega | (simp only [go_sem]; first | done | omega)) only [go_sem, he, hcj]
      refine hf _ l[j] _ (hcaps _ _) (List.getElem_mem hlt) ?_
      simp (disch := first | omega | (simp only [go_sem]; first | done | omega)) only [go_sem]
      refine acond_b (fun c => ?_) (fun c => ?_)
      · rw [if_pos c, List.append_nil] at hnx
        simp (disch := first | omega | (simp only [go_sem]; first | done | omega)) only [go_sem]
        refine Next.mk (j + 1, cur) ?_ ?_
        · dsimp only; rw [hnx]; exact ⟨⟨by omega, by omega, s3, by omega, s5, hdr0⟩, by omega⟩
        · dsimp only; rw [hnx]; (try simp (disch := first | omega | (simp only [go_sem]; first | done | omega)) only [go_sem]); (first | refine WkL.eq ?_ ?_ | refine WkL.rest (by assumption) ?_ ?_ ?_ | refine WkL.keepL (by assumption) rfl ?_ ?_ ?_ ?_) <;> first | rfl | (simp; done) | (simp; omega) | (simp only [List.cons.injEq, AV.c.injEq, AC.int.injEq, AC.bool.injEq, AC.str.injEq, and_true, true_and, Int.natCast_add, Int.natCast_one, Int.cast_ofNat_Int]; omega) | (simp [AV.ok, AV.ok1, AC.ok]; done) | (simp [AV.ok, AV.ok1, AC.ok]; omega) | (simp only [List.forall_mem_cons, List.not_mem_nil, false_implies, implies_true, and_true]; (repeat' apply And.intro) <;> first | exact okN_map (fun x => by simp [go_sem, AC.pure]) | exact okN_grO (fun x => by simp [go_sem, AC.pure]) | (simp [AObj.okN, AC.ok]; done) | (simp [AObj.okN, AC.ok]; omega)) | (simp [*]; done) | grind
      · rw [if_neg (by simp [c])] at hnx
        simp (disch := first | omega | (simp only [go_sem]; first | done | omega)) only [go_sem]
        have hset : (cur.map encN).set g.length (encN l[j]) = (cur.set g.length l[j]).map encN := by rw [List.map_set]
        simp only [encN] at hset
        refine Next.mk (j + 1, cur.set g.length l[j]) ?_ ?_
        · dsimp only
          rw [hnx]
          refine ⟨⟨by omega, by omega, by simpa using s3, by simp; omega, ?_, hdr _⟩, by omega⟩
          rw [List.length_append, List.length_singleton, List.take_succ_eq_append_getElem (by simpa using hgc), List.getElem_set_self]
          congr 1
          rw [List.take_set_of_le (Nat.le_refl _)]
          exact s5
        · dsimp only
          have hok2 : HOk (H.set i (.row 64 6 ((cur.set g.length l[j]).map encN) true)) := HOk.set hH (okN_map (fun x => by simp [go_sem, AC.pure]))
          rw [hnx, ← hset]
          rw [← hset] at hok2
          (try simp (disch := first | omega | (simp only [go_sem]; first | done | omega)) only [go_sem]); (first | refine WkL.eq ?_ ?_ | refine WkL.rest (by assumption) ?_ ?_ ?_ | refine WkL.keepL (by assumption) rfl ?_ ?_ ?_ ?_) <;> first | rfl | (simp; done) | (simp; omega) | (simp only [List.cons.injEq, AV.c.injEq, AC.int.injEq, AC.bool.injEq, AC.str.injEq, and_true, true_and, Int.natCast_add, Int.natCast_one, Int.cast_ofNat_Int]; omega) | (simp [AV.ok, AV.ok1, AC.ok]; done) | (simp [AV.ok, AV.ok1, AC.ok]; omega) | (simp only [List.forall_mem_cons, List.not_mem_nil, false_implies, implies_true, and_true]; (repeat' apply And.intro) <;> first | exact okN_map (fun x => by simp [go_sem, AC.pure]) | exact okN_grO (fun x => by simp [go_sem, AC.pure]) | (simp [AObj.okN, AC.ok]; done) | (simp [AObj.okN, AC.ok]; omega)) | (simp [*]; done) | grind
    · have hjl : j = l.length := by omega
      subst hjl
      rw [List.take_length] at hg
      rw [← hg] at hk
      simp (disch := first | omega | (simp only [go_sem]; first | done | omega)) only [go_sem]
      refine aclr_pos _ _ (List.getElem?_set_self hilt) (by omega) rfl (by simp; omega) ?_
      rw [List.set_set, ← List.map_take, s5]
      simp (disch := first | omega | (simp only [go_sem]; first | done | omega)) only [go_sem]
      refine Ret.frzDead (List.getElem?_set_self hilt) (pureL_map _ (fun x => by simp [go_sem, AC.pure])) (by simp) (by simp) ?_
      rw [List.set_set, List.take_of_length_le (by simp)]
      exact hk
theorem indexNilN_a (f : FuncId) (caps : List (Nat × Nat × Nat)) (hk : K (.c (.int .i64 (-1))) H) : ACalls Tryz.prog 47 [.c (.lst 6 []), .c (.fn f [] caps)] H K := by
  refine acalls Tryz.func47 rfl (by kernel_rfl) (by simp (disch := first | omega | (simp only [go_sem]; first | done | omega)) only [go_sem]) (fun hH => ?_)
  simp (disch := first | omega | (simp only [go_sem]; first | done | omega)) only [go_sem]
  refine AWp.rounds 0 (by kernel_rfl) ?_
  simp (disch := first | omega | (simp only [go_sem]; first | done | omega)) only [go_sem]
  exact Ret.same (Nat.le_refl _) hk
theorem deleteNilN_a (f : FuncId) (caps : List (Nat × Nat × Nat)) (hk : K (.c (.lst 6 [])) H) : ACalls Tryz.prog 25 [.c (.lst 6 []), .c (.fn f [] caps)] H K := by
  refine acalls Tryz.func25 rfl (by kernel_rfl) (by simp (disch := first | omega | (simp only [go_sem]; first | done | omega)) only [go_sem]) (fun hH => ?_)
  simp (disch := first | omega | (simp only [go_sem]; first | done | omega)) only [go_sem]
  refine indexNilN_a f caps ?_
  simp (disch := first | omega | (simp only [go_sem]; first | done | omega)) only [go_sem]
  exact Ret.same (Nat.le_refl _) hk
/-- what was cloned, or what grew -/
theorem deleteClN_a (f : FuncId) (caps : List (Nat × Nat × Nat)) (p : Bin → Bool) (he : entersB Tryz.prog f = true) (hc : ∀ (a b c : Nat), (a, b, c) ∈ caps → a < H.length) {i : Nat} (hci : ∀ (a b c : Nat), (a, b, c) ∈ caps → a ≠ i) (l : List Bin) (hi : H[i]? = some (grO 64 6 (l.map encN))) (hf : ∀ (G : Hp) (x : Bin) (K : AV → Hp → Prop), (∀ (a b c : Nat), (a, b, c) ∈ caps → G[a]? = H[a]?) → x ∈ l → K (.c (.bool (p x))) G → ACalls Tryz.prog f (.agg (encN x) :: caps.map fun q => .c (.ptr (some q))) G K) (hlen : l.length ≤ 1000000)
    (hk : K (.c (.lst 6 ((l.filter (fun x => !p x)).map encN))) (H.set i .dead)) : ACalls Tryz.prog 25 [.c (clV i 6 (l.map encN)), .c (.fn f [] caps)] H K := by
  cases l with
  | nil =>
    rw [set_same (o := .dead) hi] at hk
    exact deleteNilN_a f caps hk
  | cons x xs => exact deleteN_a f caps p he hc hci (x :: xs) hi (by simp) hf hlen hk
theorem deleteGrN_a (f : FuncId) (caps : List (Nat × Nat × Nat)) (p : Bin → Bool) (he : entersB Tryz.prog f = true) (hc : ∀ (a b c : Nat), (a, b, c) ∈ caps → a < H.length) {i : Nat} (hci : ∀ (a b c : Nat), (a, b, c) ∈ caps → a ≠ i) (l : List Bin) (hi : H[i]? = some (grO 64 6 (l.map encN))) (hf : ∀ (G : Hp) (x : Bin) (K : AV → Hp → Prop), (∀ (a b c : Nat), (a, b, c) ∈ caps → G[a]? = H[a]?) → x ∈ l → K (.c (.bool (p x))) G → ACalls Tryz.prog f (.agg (encN x) :: caps.map fun q => .c (.ptr (some q))) G K) (hlen : l.length ≤ 1000000)
    (hk : K (.c (.lst 6 ((l.filter (fun x => !p x)).map encN))) (H.set i .dead)) : ACalls Tryz.prog 25 [.c (grV i l), .c (.fn f [] caps)] H K := by
  cases l with
  | nil =>
    rw [set_same (o := .dead) hi] at hk
    refine ACalls.nilz [6] (by simp) ?_
    exact deleteNilN_a f caps hk
  | cons x xs => exact deleteN_a f caps p he hc hci (x :: xs) hi (by simp) hf hlen hk
end Go.Proofs.YthbdhennkmpgbaaGreatDoor
/- What Purge and the document's answer ask of a sample or of a bin. Condition: few holds, numbers as those of levels. -/
namespace Go.Proofs.YthbdhennkmpgbaaGreatDoor
open Go Go.RowKit
set_option maxRecDepth 100000
set_option linter.all false
set_option maxHeartbeats 1000000
variable {H : Hp} {K : AV → Hp → Prop}
theorem purge1_a {i ty : Nat} {o : Bool} (x : Smp) (t : Int) (hi : H[i]? = some (.row ty 1 [[.int .i64 t]] o)) (hk : K (.c (.bool (decide (t < x.t)))) H) : ACalls Tryz.prog 23 [.agg (encS x), .c (.ptr (some (i, 0, 0)))] H K := by
  have hi1 := getElem?_lt hi
  refine acalls Tryz.func23 rfl (by kernel_rfl) (by simp (disch := first | omega | (simp only [go_sem]; first | done | omega)) only [go_sem]) (fun hH => ?_)
  simp (disch := first | omega | (simp only [go_sem]; first | done | omega)) only [go_sem, hi]
  exact Ret.drop hH (Nat.le_refl _) trivial hk
theorem purge2_a {i j k ty ty2 ty3 : Nat} {o o2 o3 : Bool} (x : Level) (h : List Hold) (t : Int) (b : Bin) (hi : H[i]? = some (.row ty 2 [encL x] o)) (hj : H[j]? = some (.row ty2 1 [[.lst 6 (h.map encH)]] o2)) (hq : H[k]? = some (.row ty3 1 [[.int .i64 t]] o3)) (hx : x.ok) (hlen : h.length ≤ 12) (hn : ∀ y ∈ h, y.near) (hm : 0 ≤ b.a) (hm2 : b.a ≤ 400000000000) (hk : K (.c (.bool (!keepB x h b.a t))) H) : ACalls Tryz.prog 26 [.agg (encN b), .c (.ptr (some (i, 0, 0))), .c (.ptr (some (j, 0, 0))), .c (.ptr (some (k, 0, 0)))] H K := by
  have hi1 := getElem?_lt hi
  have hj1 := getElem?_lt hj
  have hk1 := getElem?_lt hq
  refine acalls Tryz.func26 rfl (by kernel_rfl) (by simp (disch := first | omega | (simp only [go_sem]; first | done | omega)) only [go_sem]) (fun hH => ?_)
  simp (disch := first | omega | (simp only [go_sem]; first | done | omega)) only [go_sem, hi, hj, hq]
  refine keeps_a x h b.a t hx hlen hn hm hm2 ?_
  simp (disch := first | omega | (simp only [go_sem]; first | done | omega)) only [go_sem]
  exact Ret.drop hH (Nat.le_refl _) trivial hk
theorem purge3_a {i j k ty ty2 ty3 : Nat} {o o2 o3 : Bool} (x : Level) (l : List (List AC)) (h : List Hold) (t : Int) (b : Smp) (hi : H[i]? = some (.row ty 1 [[.lst 2 (encL x :: l)]] o)) (hj : H[j]? = some (.row ty2 1 [[.lst 6 (h.map encH)]] o2)) (hq : H[k]? = some (.row ty3 1 [[.int .i64 t]] o3)) (hx : x.ok) (hlen : h.length ≤ 12) (hn : ∀ y ∈ h, y.near) (hm : 0 ≤ b.t) (hm2 : b.t ≤ 400000000000) (hk : K (.c (.bool (!keepB x h b.t t))) H) : ACalls Tryz.prog 28 [.agg (encS b), .c (.ptr (some (i, 0, 0))), .c (.ptr (some (j, 0, 0))), .c (.ptr (some (k, 0, 0)))] H K := by
  have hi1 := getElem?_lt hi
  have hj1 := getElem?_lt hj
  have hk1 := getElem?_lt hq
  refine acalls Tryz.func28 rfl (by kernel_rfl) (by simp (disch := first | omega | (simp only [go_sem]; first | done | omega)) only [go_sem]) (fun hH => ?_)
  simp (disch := first | omega | (simp only [go_sem]; first | done | omega)) only [go_sem, hi, hj, hq]
  refine w_draw (by kernel_rfl) (by decide +kernel) ?_
  simp (disch := first | omega | (simp only [go_sem]; first | done | omega)) only [go_sem, hi, hj, hq]
  refine keeps_a x h b.t t hx hlen hn hm hm2 ?_
  simp (disch := first | omega | (simp only [go_sem]; first | done | omega)) only [go_sem]
  exact Ret.drop hH (Nat.le_refl _) trivial hk
end Go.Proofs.YthbdhennkmpgbaaGreatDoor
/- What is left of a series: the program. Condition: few holds, numbers as those of levels. -/
namespace Go.Proofs.YthbdhennkmpgbaaGreatDoor
open Go Go.RowKit
set_option maxRecDepth 100000
set_option linter.all false
set_option maxHeartbeats 1000000
variable {H : Hp} {K : AV → Hp → Prop}
def encB (b : List Bin) : List AC := [.lst 6 (b.map encN)]
attribute [go_sem] encB
theorem pureL_encB (l : List (List Bin)) : pureL (l.map encB) = true := by simp [pureL, encB, AC.pure]
/-- two slices handed back, the second grew -/
theorem Ret.frzGrT2 {P G : Hp} {n ty sz : Nat} {l : List (List AC)} {x y : AC} {ts : List AV} (j : Nat) (hA : HOk P) (hn : n ≤ P.length) (hj : G[j]? = some (grO ty sz l)) (hp : pureL l = true) (ht : tailOk ts = true) (hy : ∃ a b, y = .lst a b) (hx : x = grV (P.length + j) l) (hk : K (.tup (.c y :: .c (.lst sz l) :: ts)) P) : Ret n (.tup (.c y :: .c x :: ts)) (P ++ G) K := by
  subst hx
  obtain ⟨a, b, rfl⟩ := hy
  have ho : (AV.tup (.c (.lst a b) :: .c (.lst sz l) :: ts)).ok P.length := by
    intro y hy
    rcases List.mem_cons.1 hy with rfl | hy
    · trivial
    rcases List.mem_cons.1 hy with rfl | hy
    · trivial
    · exact tail_ok1 _ ht y hy
  cases l with
  | nil =>
    refine Ret.nil [0, sz] (by simp; omega) ?_
    have e : (AV.tup (.c (.lst a b) :: .c (grV (P.length + j) ([] : List (List AC))) :: ts)).nilz [0, sz] = .tup (.c (.lst a b) :: .c (.lst sz []) :: ts) := by
      simp [AV.nilz, AV.nilz.go, grV, AC.nilz]
    rw [e]
    exact Ret.drop hA hn ho hk
  | cons z zs =>
    refine Ret.frzAt j hA hn hk hj hp ho ?_
    simp only [AV.frz, List.map_cons, tail_frz ht]
    simp [AV.frz1, AC.frz, grV]
theorem Ret.nilT2 {P G : Hp} {n sz sz2 : Nat} {ts : List AV} (hA : HOk P) (hn : n ≤ P.length) (ht : tailOk ts = true) (hk : K (.tup (.c (.lst sz []) :: .c (.lst sz2 []) :: ts)) P) : Ret n (.tup (.c (.sl none 0) :: .c (.sl none 0) :: ts)) (P ++ G) K := by
  refine Ret.nil [sz, sz2] (by simp; omega) ?_
  have e : (AV.tup (.c (.sl none 0) :: .c (.sl none 0) :: ts)).nilz [sz, sz2] = .tup (.c (.lst sz []) :: .c (.lst sz2 []) :: ts) := by simp [AV.nilz, AV.nilz.go, AC.nilz]
  rw [e]
  refine Ret.drop hA hn ?_ hk
  intro y hy
  rcases List.mem_cons.1 hy with rfl | hy
  · trivial
  rcases List.mem_cons.1 hy with rfl | hy
  · trivial
  · exact tail_ok1 _ ht y hy
def upTo (s : List Smp) (t : Int) : List Smp := s.filter (fun x => !decide (t < x.t))
def leftF (kp : Int → Bool) (s : List Smp) : List Smp := s.filter (fun x => kp x.t)
def binsLeft (kp : Int → Bool) (step : Int) (s : List Smp) : List Bin := (binsF step s).filter (fun b => kp b.a)
def purgeE (l : List Level) (h : List Hold) (tag : ByteArray) (s : List Smp) (t : Int) : Int := firstE [firstE [lvF l, hdF h, tagE tag], serF s, if 0 ≤ t ∧ t ≤ 345686399999 then 0 else 1]
def purgeS (kp : Level → Int → Bool) (l : List Level) (s : List Smp) (t : Int) : List Smp := leftF (kp (l.headD ⟨0, 0⟩)) (upTo s t)
def purgeB (kp : Level → Int → Bool) (l : List Level) (s : List Smp) (t : Int) : List (List Bin) := l.tail.map fun x => binsLeft (kp x) x.step (upTo s t)
def restF (kp : Level → Int → Bool) (ls : List Level) (U : List Smp) : List (List Bin) := ls.map fun x => binsLeft (kp x) x.step U
theorem restF_len (kp : Level → Int → Bool) (ls : List Level) (U : List Smp) : (restF kp ls U).length = ls.length := by simp [restF]
theorem restF_next (kp : Level → Int → Bool) (ls : List Level) (U : List Smp) {k : Nat} (h : k < ls.length) : restF kp (ls.take (k + 1)) U = restF kp (ls.take k) U ++ [binsLeft (kp ls[k]) ls[k].step U] := by
  rw [List.take_succ_eq_append_getElem h, restF, List.map_append]; rfl
def purgeRes (l : List Level) (h : List Hold) (tag : ByteArray) (s : List Smp) (t : Int) : List Smp × List (List Bin) × Int :=
  if purgeE l h tag s t ≠ 0 then ([], [], purgeE l h tag s t) else (purgeS (fun x m => keepB x (ofF h tag) m t) l s t, purgeB (fun x m => keepB x (ofF h tag) m t) l s t, 0)
theorem lvF_step {x0 : Level} {ls : List Level} (h : lvF (x0 :: ls) = 0) : ∀ x ∈ ls, 1 ≤ x.step ∧ x.step ≤ 86400000 := by
  intro x hx
  have h1 : errGo lvErr 0 ⟨0, 0⟩ (x0 :: ls) = 0 := by
    unfold lvF at h
    split at h
    · cases h
    · split at h
      · cases h
      · exact h
  obtain ⟨k, hk, rfl⟩ := List.getElem_of_mem hx
  have h2 := errGo_pair lvErr _ _ h1 (k + 1) (by simpa using hk)
  rw [List.getElem_cons_succ] at h2
  generalize prv (⟨0, 0⟩ : Level) (x0 :: ls) (k + 1) = p at h2
  unfold lvErr at h2
  split at h2
  · cases h2
  · rename_i g1
    split at h2
    · cases h2
    · rename_i g2
      have g3 : ls[k].step ≠ 0 := fun e => g2 (.inr ⟨by omega, e⟩)
      have g4 : isStep ls[k].step := Classical.byContradiction fun e => g1 (.inl ⟨g3, e⟩)
      exact ⟨g4.1, g4.2.1⟩
theorem filter_incS {l : List Smp} (h : incS l) (p : Smp → Bool) : incS (l.filter p) := by
  have h1 : l.Pairwise (fun x y => x.t < y.t) := List.pairwise_iff_getElem.2 fun i j hi hj hij => h i j hj hij
  have h2 := h1.filter p
  intro i j hj hij
  exact List.pairwise_iff_getElem.1 h2 i j (by omega) hj hij
theorem binOf_a (step : Int) (x : Smp) : (binOf step x).a = x.t / step * step := by unfold binOf; split <;> rfl
theorem binsF_a (step : Int) (lo hi : Int) : ∀ (l : List Smp) (r : List Bin), (∀ x ∈ l, lo ≤ x.t / step * step ∧ x.t / step * step ≤ hi) → (∀ b ∈ r, lo ≤ b.a ∧ b.a ≤ hi) → ∀ b ∈ l.foldl (fun r x => putB r (binOf step x)) r, lo ≤ b.a ∧ b.a ≤ hi
  | [], r, _, hr => hr
  | x :: l, r, hl, hr => by
    rw [List.foldl_cons]
    refine binsF_a step lo hi l _ (fun y hy => hl y (by simp [hy])) ?_
    have hx := hl x (by simp)
    rw [← binOf_a] at hx
    intro b hb
    unfold putB at hb
    split at hb
    · simp at hb; subst hb; exact hx
    · rename_i z hz
      have hz2 := hr z (List.mem_of_getLast? hz)
      split at hb
      · rcases List.mem_append.1 hb with h | h
        · exact hr b (List.dropLast_subset _ h)
        · simp at h; subst h; exact hz2
      · rcases List.mem_append.1 hb with h | h
        · exact hr b h
        · simp at h; subst h; exact hx
theorem purge_a (l : List Level) (h : List Hold) (tag : ByteArray) (s : List Smp) (t : Int) (hl : l.length ≤ 1000) (hlen : h.length ≤ 12) (hs : ∀ x ∈ h, x.short) (hn : ∀ y ∈ h, y.near) (ht : tag.size ≤ 1000) (hsl : s.length ≤ 1099511627776)
    (hk : K (.tup [.c (.lst 3 ((purgeRes l h tag s t).1.map encS)), .c (.lst 1 ((purgeRes l h tag s t).2.1.map encB)), (.c (.int .i64 ((purgeRes l h tag s t).2.2)))]) H) : ACalls Tryz.prog 8 [.c (.lst 2 (l.map encL)), .c (.lst 6 (h.map encH)), (.c (.str tag)), .c (.lst 3 (s.map encS)), (.c (.int .i64 t))] H K := by
  refine acalls Tryz.func8 rfl (by kernel_rfl) (by simp (disch := first | omega | (simp only [go_sem]; first | done | omega)) only [go_sem]) (fun hH => ?_)
  simp (disch := first | omega | (simp only [go_sem]; first | done | omega)) only [go_sem]
  refine fault_a l h tag hl (by omega) hs ht ?_
  simp (disch := first | omega | (simp only [go_sem]; first | done | omega)) only [go_sem]
  refine checkSeries_a s (by omega) ?_
  simp (disch := first | omega | (simp only [go_sem]; first | done | omega)) only [go_sem]
  refine first2_lit (firstE [lvF l, hdF h, tagE tag]) (serF s) (by first | exact at0 (by simp) | exact at1 (by simp) | exact at2 (by simp) | exact at3 (by simp) | exact at4 (by simp) | exact at5 (by simp) | exact atG 6 (by simp) rfl | exact atG 7 (by simp) rfl | exact atG 8 (by simp) rfl | exact atG 9 (by simp) rfl | exact atG 10 (by simp) rfl | assumption) rfl rfl ?_
  simp (disch := first | omega | (simp only [go_sem]; first | done | omega)) only [go_sem]
  refine acond_d (fun c => ?_) (fun c => ?_)
  rotate_left
  · have e : purgeE l h tag s t = firstE [firstE [lvF l, hdF h, tagE tag], serF s] := by
      unfold purgeE
      generalize firstE [lvF l, hdF h, tagE tag] = a at *
      generalize serF s = b at *
      simp only [firstE] at c ⊢
      grind
    rw [show purgeRes l h tag s t = ([], [], purgeE l h tag s t) by unfold purgeRes; rw [if_pos (by rw [e]; exact c)], e] at hk
    simp (disch := first | omega | (simp only [go_sem]; first | done | omega)) only [go_sem]
    exact Ret.nilT2 hH (Nat.le_refl _) rfl hk
  obtain ⟨c1, c2⟩ := firstE_two c
  obtain ⟨c3, c4, c5⟩ := firstE_three c1
  simp (disch := first | omega | (simp only [go_sem]; first | done | omega)) only [go_sem]
  refine moment_a _ _ _ ?_
  simp (disch := first | omega | (simp only [go_sem]; first | done | omega)) only [go_sem]
  refine acond_b (fun c6 => ?_) (fun c6 => ?_)
  rotate_left
  · have e : purgeE l h tag s t = 1 := by
      unfold purgeE
      rw [c1, c2, if_neg (by simpa using c6)]
      rfl
    rw [show purgeRes l h tag s t = ([], [], purgeE l h tag s t) by unfold purgeRes; rw [if_pos (by rw [e]; decide)], e] at hk
    simp (disch := first | omega | (simp only [go_sem]; first | done | omega)) only [go_sem]
    exact Ret.nilT2 hH (Nat.le_refl _) rfl hk
  have c7 : 0 ≤ t ∧ t ≤ 345686399999 := by simpa using c6
  have e : purgeE l h tag s t = 0 := by
    unfold purgeE
    rw [c1, c2, if_pos c7]
    rfl
  rw [show purgeRes l h tag s t = (purgeS (fun x m => keepB x (ofF h tag) m t) l s t, purgeB (fun x m => keepB x (ofF h tag) m t) l s t, 0) by unfold purgeRes; rw [if_neg (by rw [e]; decide)]] at hk
  obtain ⟨hx, h6, h0⟩ := lvF_ok c3
  obtain ⟨s1, s2⟩ := serF_ok c2
  have hol := ofF_len h tag
  have hon : ∀ y ∈ ofF h tag, y.near := fun y hy => hn y (List.mem_filter.1 hy).1
  simp (disch := first | omega | (simp only [go_sem]; first | done | omega)) only [go_sem]
  refine of_a h tag (by omega) ?_
  simp (disch := first | omega | (simp only [go_sem]; first | done | omega)) only [go_sem]
  refine cloneS_a s (by omega) ?_
  obtain ⟨x0, ls, rfl⟩ : ∃ x0 ls, l = x0 :: ls := by
    cases l with
    | nil => simp at h0
    | cons x xs => exact ⟨x, xs, rfl⟩
  have hst := lvF_step c3
  simp (disch := first | omega | (simp only [go_sem]; first | done | omega)) only [go_sem]
  refine deleteClS_a 23 [(H.length + 2, 0, 0)] (fun x => decide (t < x.t)) (by kernel_rfl) (by intro a b c hm; simp at hm; (try simp); omega) (by intro a b c hm; simp at hm; (try simp); omega) s (by first | exact at0 (by simp) | exact at1 (by simp) | exact at2 (by simp) | exact at3 (by simp) | exact at4 (by simp) | exact at5 (by simp) | exact atG 6 (by simp) rfl | exact atG 7 (by simp) rfl | exact atG 8 (by simp) rfl | exact atG 9 (by simp) rfl | exact atG 10 (by simp) rfl | assumption) (fun G x K hG _ hK => purge1_a x t ((hG _ _ _ (List.Mem.head _)).trans (by first | exact at0 (by simp) | exact at1 (by simp) | exact at2 (by simp) | exact at3 (by simp) | exact at4 (by simp) | exact at5 (by simp) | exact atG 6 (by simp) rfl | exact atG 7 (by simp) rfl | exact atG 8 (by simp) rfl | exact atG 9 (by simp) rfl | exact atG 10 (by simp) rfl | assumption)) hK) (by omega) ?_
  obtain ⟨U, hU⟩ : ∃ U, U = upTo s t := ⟨_, rfl⟩
  have hUl : U.length ≤ s.length := by rw [hU]; exact List.length_filter_le _ _
  have hUs : ∀ x ∈ U, 0 ≤ x.t ∧ x.t ≤ 345686399999 ∧ -1000000 ≤ x.v ∧ x.v ≤ 1000000 := fun x hx => by
    rw [hU] at hx
    have := smp_ok (s2 x (List.mem_filter.1 hx).1)
    omega
  rw [show s.filter (fun x => !decide (t < x.t)) = U from hU.symm]
  generalize hkp : (fun (x : Level) (m : Int) => keepB x (ofF h tag) m t) = kp at *
  simp (disch := first | omega | (simp only [go_sem]; first | done | omega)) only [go_sem]
  refine AWp.loop (H.length + 3) [3, 5, 6, 9, 41, 42] [43, 14] (fun (k : Nat) => k ≤ ls.length) (fun (k : Nat) => [(43, (.c (.int .i64 k))), (14, .c (grV (H.length + 4) (restF kp (ls.take k) U)))]) (fun (k : Nat) => H ++ [.row 26 1 [[.lst 2 (encL x0 :: ls.map encL)]] true, .row 51 1 [[.lst 6 ((ofF h tag).map encH)]] true, .row 3 1 [[.int .i64 t]] true, .dead, grO 42 1 ((restF kp (ls.take k) U).map encB)]) (fun (k : Nat) => ls.length - k) (by kernel_rfl) (fun _ => rfl) (by kernel_rfl) (by simp) (by first | (simp; done) | (simp; omega)) (by (try simp only [List.forall_mem_cons, List.not_mem_nil, false_implies, implies_true, and_true]); (try simp (disch := first | omega | (simp only [go_sem]; first | done | omega)) only [go_sem]); all_goals first | trivial | (simp [AV.ok, AV.ok1, AC.ok]; done) | (simp [AV.ok, AV.ok1, AC.ok]; omega) | (simp [AV.ok, AV.ok1, AC.ok]; assumption) | ((repeat' apply And.intro) <;> first | trivial | (simp [AV.ok, AV.ok1, AC.ok]; done) | (simp [AV.ok, AV.ok1, AC.ok]; omega) | (simp [AV.ok, AV.ok1, AC.ok]; assumption) | (refine grV_ok ?_ _; first | (simp; done) | (simp; omega) | omega))) ?_ (fun k hkb _ _ => ?_)
  · exact Next.mk 0 (by omega) (by (try simp (disch := first | omega | (simp only [go_sem]; first | done | omega)) only [go_sem]); (first | refine WkL.eq ?_ ?_ | refine WkL.rest (by assumption) ?_ ?_ ?_ | refine WkL.keepL (by assumption) rfl ?_ ?_ ?_ ?_) <;> first | rfl | (simp; done) | (simp; omega) | (simp only [List.cons.injEq, AV.c.injEq, AC.int.injEq, AC.bool.injEq, AC.str.injEq, and_true, true_and, Int.natCast_add, Int.natCast_one, Int.cast_ofNat_Int]; omega) | (simp [AV.ok, AV.ok1, AC.ok]; done) | (simp [AV.ok, AV.ok1, AC.ok]; omega) | (simp only [List.forall_mem_cons, List.not_mem_nil, false_implies, implies_true, and_true]; (repeat' apply And.intro) <;> first | exact okN_map (fun x => by simp [go_sem, AC.pure]) | exact okN_grO (fun x => by simp [go_sem, AC.pure]) | (simp [AObj.okN, AC.ok]; done) | (simp [AObj.okN, AC.ok]; omega)) | (simp [*]; done) | grind)
  have htk : (restF kp (ls.take k) U).length ≤ ls.length := by rw [restF_len, List.length_take]; omega
  have h6' : ls.length ≤ 5 := by simpa using h6
  by_cases hlt : k < ls.length
  · have hxk := hx ls[k] (by simp)
    obtain ⟨g1, g2⟩ := hst ls[k] (List.getElem_mem hlt)
    have hbl := binsF_len ls[k].step U
    have hnx := restF_next kp ls U hlt
    have hba : ∀ b ∈ binsF ls[k].step U, 0 ≤ b.a ∧ b.a ≤ 400000000000 := binsF_a _ _ _ U [] (fun x hx => by
      have := hUs x hx
      have t0 : 0 ≤ x.t / ls[k].step := Int.ediv_nonneg (by omega) (by omega)
      have t1 : x.t / ls[k].step * ls[k].step ≤ x.t := Int.ediv_mul_le _ (by omega)
      have t2 : 0 ≤ x.t / ls[k].step * ls[k].step := Int.mul_nonneg t0 (by omega)
      omega) (by simp)
    simp (disch := first | omega | (simp only [go_sem]; first | done | omega)) only [go_sem]
    refine bins_o U ls[k].step (by omega) g1 g2 hUs ?_
    simp (disch := first | omega | (simp only [go_sem]; first | done | omega)) only [go_sem]
    refine deleteGrN_a 26 [(H.length + 5, 0, 0), (H.length + 1, 0, 0), (H.length + 2, 0, 0)] (fun b => !kp ls[k] b.a) (by kernel_rfl) (by intro a b c hm; simp at hm; (try simp); omega) (by intro a b c hm; simp at hm; (try simp); omega) (binsF ls[k].step U) (by first | exact at0 (by simp) | exact at1 (by simp) | exact at2 (by simp) | exact at3 (by simp) | exact at4 (by simp) | exact at5 (by simp) | exact atG 6 (by simp) rfl | exact atG 7 (by simp) rfl | exact atG 8 (by simp) rfl | exact atG 9 (by simp) rfl | exact atG 10 (by simp) rfl | assumption) (fun G b K hG hb hK => purge2_a ls[k] (ofF h tag) t b ((hG _ _ _ (List.Mem.head _)).trans (by first | exact at0 (by simp) | exact at1 (by simp) | exact at2 (by simp) | exact at3 (by simp) | exact at4 (by simp) | exact at5 (by simp) | exact atG 6 (by simp) rfl | exact atG 7 (by simp) rfl | exact atG 8 (by simp) rfl | exact atG 9 (by simp) rfl | exact atG 10 (by simp) rfl | assumption)) ((hG _ _ _ (List.Mem.tail _ (List.Mem.head _))).trans (by first | exact at0 (by simp) | exact at1 (by simp) | exact at2 (by simp) | exact at3 (by simp) | exact at4 (by simp) | exact at5 (by simp) | exact atG 6 (by simp) rfl | exact atG 7 (by simp) rfl | exact atG 8 (by simp) rfl | exact atG 9 (by simp) rfl | exact atG 10 (by simp) rfl | assumption)) ((hG _ _ _ (List.Mem.tail _ (List.Mem.tail _ (List.Mem.head _)))).trans (by first | exact at0 (by simp) | exact at1 (by simp) | exact at2 (by simp) | exact at3 (by simp) | exact at4 (by simp) | exact at5 (by simp) | exact atG 6 (by simp) rfl | exact atG 7 (by simp) rfl | exact atG 8 (by simp) rfl | exact atG 9 (by simp) rfl | exact atG 10 (by simp) rfl | assumption)) hxk (by omega) hon (hba b hb).1 (hba b hb).2 (by subst hkp; exact hK)) (by omega) ?_
    simp (disch := first | omega | (simp only [go_sem]; first | done | omega)) only [go_sem]
    (refine app_gr (enc := encB) (e := 42) (sz := 1) (bs := 24) (z := [.sl none 0]) (_) (binsLeft (kp ls[k]) ls[k].step U) (by kernel_rfl) (by kernel_rfl) (by kernel_rfl) (by kernel_rfl) (by first | exact at0 (by simp) | exact at1 (by simp) | exact at2 (by simp) | exact at3 (by simp) | exact at4 (by simp) | exact at5 (by simp) | exact atG 6 (by simp) rfl | exact atG 7 (by simp) rfl | exact atG 8 (by simp) rfl | exact atG 9 (by simp) rfl | exact atG 10 (by simp) rfl | assumption) (by first | (simp (disch := first | omega | (simp only [go_sem]; first | done | omega)) only [go_sem]; done) | (simp (disch := first | omega | (simp only [go_sem]; first | done | omega)) only [go_sem]; rfl) | (simp (disch := first | omega | (simp only [go_sem]; first | done | omega)) only [go_sem]; simp [go_sem]; done) | (simp (disch := first | omega | (simp only [go_sem]; first | done | omega)) only [go_sem]; simp [*]; done)) rfl (by decide) (by omega) (by omega) (by rfl) ?_)
    simp (disch := first | omega | (simp only [go_sem]; first | done | omega)) only [go_sem]
    exact Next.mk (k + 1) ⟨by omega, by omega⟩ (by rw [hnx]; ((try simp (disch := first | omega | (simp only [go_sem]; first | done | omega)) only [go_sem]); (first | refine WkL.pickAt [_, _, _, _] [0] ?_ ?_ ?_ rfl ?_ ?_ ?_ ?_ | refine WkL.pickAt [_, _, _, _] [1] ?_ ?_ ?_ rfl ?_ ?_ ?_ ?_ | refine WkL.pickAt [_, _, _, _] [2] ?_ ?_ ?_ rfl ?_ ?_ ?_ ?_ | refine WkL.pickAt [_, _, _, _] [3] ?_ ?_ ?_ rfl ?_ ?_ ?_ ?_ | refine WkL.pickAt [_, _, _, _] [4] ?_ ?_ ?_ rfl ?_ ?_ ?_ ?_ | refine WkL.pickAt [_, _, _, _] [5] ?_ ?_ ?_ rfl ?_ ?_ ?_ ?_ | refine WkL.pickAt [_, _, _, _] [6] ?_ ?_ ?_ rfl ?_ ?_ ?_ ?_ | refine WkL.pickAt [_, _, _, _] [7] ?_ ?_ ?_ rfl ?_ ?_ ?_ ?_ | refine WkL.pickAt [_, _, _, _] [8] ?_ ?_ ?_ rfl ?_ ?_ ?_ ?_ | refine WkL.pickAt [_, _, _, _] [9] ?_ ?_ ?_ rfl ?_ ?_ ?_ ?_ | refine WkL.pickAt [_, _, _, _] [10] ?_ ?_ ?_ rfl ?_ ?_ ?_ ?_ | refine WkL.pickAt [_, _, _, _] [11] ?_ ?_ ?_ rfl ?_ ?_ ?_ ?_ | refine WkL.pickAt [_, _, _, _] [12] ?_ ?_ ?_ rfl ?_ ?_ ?_ ?_ | refine WkL.pickAt [_, _, _, _] [13] ?_ ?_ ?_ rfl ?_ ?_ ?_ ?_ | refine WkL.pickAt [_, _, _, _] [14] ?_ ?_ ?_ rfl ?_ ?_ ?_ ?_ | refine WkL.pickAt [_, _, _, _] [15] ?_ ?_ ?_ rfl ?_ ?_ ?_ ?_ | refine WkL.pickAt [_, _, _, _] [16] ?_ ?_ ?_ rfl ?_ ?_ ?_ ?_ | refine WkL.pickAt [_, _, _, _] [17] ?_ ?_ ?_ rfl ?_ ?_ ?_ ?_) <;> first | assumption | exact HOk.str (by assumption) | (simp; done) | (simp; omega) | (simp [pureO_gr, AObj.pureO, pureL, go_sem, AC.pure]; done) | (simp only [List.all_cons, List.all_nil, Bool.and_true]; exact pureO_gr (pureL_map _ (fun x => by simp [go_sem, AC.pure]))) | ((try simp only [List.map_cons, List.map_nil, av_ren_gr]); simp [AV.ren, AV.ren1, AC.ren, pickS]; first | done | omega) | (simp only [List.forall_mem_cons, List.not_mem_nil, false_implies, implies_true, and_true]; (repeat' apply And.intro) <;> first | trivial | exact grV_ok (by simp) _ | exact okN_grO (fun x => by simp [go_sem, AC.pure]) | exact okN_map (fun x => by simp [go_sem, AC.pure]) | (simp [AV.ok, AV.ok1, AC.ok]; done) | (simp [AV.ok, AV.ok1, AC.ok]; omega) | (simp [AObj.okN, AC.ok]; done)) | (simp [AObj.okN]; done)))
  · have hke : k = ls.length := by omega
    subst hke
    rw [List.take_length]
    simp (disch := first | omega | (simp only [go_sem]; first | done | omega)) only [go_sem]
    refine cloneS_a U (by omega) ?_
    simp (disch := first | omega | (simp only [go_sem]; first | done | omega)) only [go_sem]
    refine deleteClS_a 28 [(H.length, 0, 0), (H.length + 1, 0, 0), (H.length + 2, 0, 0)] (fun x => !kp x0 x.t) (by kernel_rfl) (by intro a b c hm; simp at hm; (try simp); omega) (by intro a b c hm; simp at hm; (try simp); omega) U (by first | exact at0 (by simp) | exact at1 (by simp) | exact at2 (by simp) | exact at3 (by simp) | exact at4 (by simp) | exact at5 (by simp) | exact atG 6 (by simp) rfl | exact atG 7 (by simp) rfl | exact atG 8 (by simp) rfl | exact atG 9 (by simp) rfl | exact atG 10 (by simp) rfl | assumption) (fun G x K hG hx1 hK => purge3_a x0 (ls.map encL) (ofF h tag) t x ((hG _ _ _ (List.Mem.head _)).trans (by first | exact at0 (by simp) | exact at1 (by simp) | exact at2 (by simp) | exact at3 (by simp) | exact at4 (by simp) | exact at5 (by simp) | exact atG 6 (by simp) rfl | exact atG 7 (by simp) rfl | exact atG 8 (by simp) rfl | exact atG 9 (by simp) rfl | exact atG 10 (by simp) rfl | assumption)) ((hG _ _ _ (List.Mem.tail _ (List.Mem.head _))).trans (by first | exact at0 (by simp) | exact at1 (by simp) | exact at2 (by simp) | exact at3 (by simp) | exact at4 (by simp) | exact at5 (by simp) | exact atG 6 (by simp) rfl | exact atG 7 (by simp) rfl | exact atG 8 (by simp) rfl | exact atG 9 (by simp) rfl | exact atG 10 (by simp) rfl | assumption)) ((hG _ _ _ (List.Mem.tail _ (List.Mem.tail _ (List.Mem.head _)))).trans (by first | exact at0 (by simp) | exact at1 (by simp) | exact at2 (by simp) | exact at3 (by simp) | exact at4 (by simp) | exact at5 (by simp) | exact atG 6 (by simp) rfl | exact atG 7 (by simp) rfl | exact atG 8 (by simp) rfl | exact atG 9 (by simp) rfl | exact atG 10 (by simp) rfl | assumption)) (hx x0 (by simp)) (by omega) hon (hUs x hx1).1 (by have := hUs x hx1; omega) (by subst hkp; exact hK)) (by omega) ?_
    simp (disch := first | omega | (simp only [go_sem]; first | done | omega)) only [go_sem]
    exact Ret.frzGrT2 4 hH (Nat.le_refl _) rfl (pureL_encB _) rfl ⟨_, _, rfl⟩ (map_grV _ _ _).symm (by subst hU; exact hk)
end Go.Proofs.YthbdhennkmpgbaaGreatDoor
/- What is left of purged samples: no program in sight. No condition. -/
namespace Go.Proofs.YthbdhennkmpgbaaGreatDoor
open Go Go.RowKit
set_option maxRecDepth 100000
set_option linter.all false
theorem purge_ok {lv : List Level} {h : List Hold} {tag : ByteArray} {s : List Smp} {t : Int} (c1 : lvF lv = 0) (c2 : hdF h = 0) (c3 : tagE tag = 0) (c4 : serF s = 0) (h0 : 0 ≤ t) (h1 : t ≤ 345686399999) :
    purgeRes lv h tag s t = (purgeS (fun x m => keepB x (ofF h tag) m t) lv s t, purgeB (fun x m => keepB x (ofF h tag) m t) lv s t, 0) := by
  have e : purgeE lv h tag s t = 0 := by
    unfold purgeE
    rw [c1, c2, c3, c4, if_pos ⟨h0, h1⟩]
    rfl
  unfold purgeRes
  rw [if_neg (by rw [e]; decide)]
/-- what is purged, and what the first level keeps -/
theorem purgeS_mem {lv : List Level} {h : List Hold} {s : List Smp} {t : Int} (c1 : lvF lv = 0) {z : Smp} (hz : z ∈ s) (ht : ¬t < z.t) : decide ((0 : Int) ∈ idxG (fun x => keepB x h z.t t) 0 lv) = decide (z ∈ purgeS (fun x m => keepB x h m t) lv s t) := by
  obtain ⟨_, _, h0⟩ := lvF_ok c1
  cases lv with
  | nil => simp at h0
  | cons x xs =>
    rw [decide_eq_decide, idxG_zero]
    unfold purgeS leftF upTo
    rw [List.mem_filter, List.mem_filter]
    simp [hz, ht]
theorem upTo_win {s : List Smp} (c : serF s = 0) (t : Int) : withinF s ⟨0, t + 1⟩ = upTo s t := by
  unfold withinF upTo
  refine List.filter_congr fun x hx => ?_
  have := (smp_ok ((serF_ok c).2 x hx)).1
  rw [Bool.eq_iff_iff]
  simp
  omega
theorem upTo_ser {s : List Smp} (c : serF s = 0) (t : Int) : serF (upTo s t) = 0 := serF_sub c List.filter_sublist
theorem lvF_isStep {lv : List Level} (h : lvF lv = 0) {k : Nat} (hk : k + 1 < lv.length) : isStep lv[k + 1].step := by
  obtain ⟨a1, _, _, a4, _⟩ := lvErr_ok (lvF_all h (k + 1) hk)
  exact a1 (fun e => by have := a4.2 e; omega)
theorem purgeB_get {kp : Level → Int → Bool} {lv : List Level} {s : List Smp} {t : Int} {k : Nat} (hk : k + 1 < lv.length) : (purgeB kp lv s t)[k]? = some (binsLeft (kp lv[k + 1]) lv[k + 1].step (upTo s t)) := by
  unfold purgeB
  rw [List.getElem?_map, List.getElem?_tail, List.getElem?_eq_getElem hk]
  rfl
theorem purgeB_len {kp : Level → Int → Bool} {lv : List Level} {s : List Smp} {t : Int} : (purgeB kp lv s t).length = lv.length - 1 := by
  unfold purgeB
  rw [List.length_map, List.length_tail]
theorem binsLeft_sub (kp : Int → Bool) (step : Int) (s : List Smp) : (binsLeft kp step s).any (fun b => !decide (b ∈ binsF step s)) = false := by
  rw [List.any_eq_false]
  intro b hb
  have := (List.mem_filter.1 hb).1
  simpa using this
end Go.Proofs.YthbdhennkmpgbaaGreatDoor
