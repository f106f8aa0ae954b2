/- Arrivals that are drawn. No condition. -/
import Derived.Test.YtppmkgaobeccfaaGreatDoorHVArrT
import Derived.Test.YtppmkgaobeccfaaGreatDoorHVArrS
namespace Go.Proofs.YtppmkgaobeccfaaGreatDoor
open Go Go.RowKit
set_option maxRecDepth 100000
set_option linter.all false
set_option maxHeartbeats 2000000
variable {H : Hp} {K : AV → Hp → Prop}
/-- as arrivals are drawn -/
def arFine (x : Arr) : Prop := x.nd.size ≤ 1000 ∧ x.p.tag.size ≤ 1000 ∧ (-1100000000000 ≤ x.t ∧ x.t ≤ 1100000000000) ∧ (-1100000000000 ≤ x.p.n ∧ x.p.n ≤ 1100000000000) ∧ (x.p.n ≤ 10 ∨ 1000000 < x.p.n)
theorem arFine.ok {x : Arr} (h : arFine x) : arOk x := by
  obtain ⟨_, _, h3, h4, _⟩ := h
  exact ⟨by omega, by omega⟩
theorem compactFuncAr_a {f : FuncId} {e : Arr → Arr → Bool} (he : entersB Tryz.prog f = true) (l : List Arr) (hf : ∀ (x y : Arr) (H : Hp) (K : AV → Hp → Prop), x ∈ l → y ∈ l → K (.c (.bool (e x y))) H → ACalls Tryz.prog f [.agg (encAr x), .agg (encAr y)] H K) {i n : Nat} (hi : H[i]? = some (.row 37 7 (l.map encAr) true)) (hn : n = l.length) (hlen : l.length ≤ 1000000)
    (hk : K (.c (.lst 7 ((compactQ e l).map encAr))) (H.set i .dead)) :
    ACalls Tryz.prog 80 [.c (.sl (some (i, 0)) n), .c (.fn f [] [])] H K := by
  subst hn
  have hilt := getElem?_lt hi
  refine acalls Tryz.func80 rfl (by kernel_rfl) (by simp (disch := first | omega | (simp only [go_sem]; first | done | omega)) only [go_sem]) (fun hH => ?_)
  simp (disch := first | omega | (simp only [go_sem]; first | done | omega)) only [go_sem]
  by_cases h2 : l.length < 2
  · rw [compactQ_few e l h2] at hk
    simp (disch := first | omega | (simp only [go_sem]; first | done | omega)) only [go_sem]
    refine Ret.frzDead hi (pureL_map _ (fun x => by simp [go_sem, AC.pure])) (by simp) (Nat.le_refl _) ?_
    rw [List.take_of_length_le (by simp)]
    exact hk
  simp (disch := first | omega | (simp only [go_sem]; first | done | omega)) only [go_sem]
  refine AWp.loop (H.length) [0, 1] [5] (fun (k : Nat) => 1 ≤ k ∧ k ≤ l.length ∧ compactQ e (l.take k) = l.take k) (fun (k : Nat) => [(5, (.c (.int .i64 k)))]) (fun (k : Nat) => H) (fun (k : Nat) => l.length - k) (by kernel_rfl) (fun _ => rfl) (by kernel_rfl) (by first | (simp; done) | omega) (by first | (simp; done) | (simp; omega) | omega) (by (try simp only [List.forall_mem_cons, List.not_mem_nil, false_implies, implies_true, and_true]); (try simp (disch := first | omega | (simp only [go_sem]; first | done | omega)) only [go_sem]); all_goals first | trivial | (simp [AV.ok, AV.ok1, AC.ok]; done) | (simp [AV.ok, AV.ok1, AC.ok]; omega) | (simp [AV.ok, AV.ok1, AC.ok]; assumption) | ((repeat' apply And.intro) <;> first | trivial | (simp [AV.ok, AV.ok1, AC.ok]; done) | (simp [AV.ok, AV.ok1, AC.ok]; omega) | (simp [AV.ok, AV.ok1, AC.ok]; assumption) | (refine grV_ok ?_ _; first | (simp; done) | (simp; omega) | omega))) ?_ (fun k hk1' _ _ => ?_)
  · refine Next.mk 1 ⟨Nat.le_refl _, by omega, ?_⟩ (by (try simp (disch := first | omega | (simp only [go_sem]; first | done | omega)) only [go_sem]); (first | refine WkL.eq ?_ ?_ | refine WkL.rest (by assumption) ?_ ?_ ?_ | refine WkL.keepL (by assumption) rfl ?_ ?_ ?_ ?_) <;> first | rfl | (simp; done) | (simp; omega) | (simp only [List.cons.injEq, AV.c.injEq, AC.int.injEq, AC.bool.injEq, AC.str.injEq, and_true, true_and, Int.natCast_add, Int.natCast_one, Int.cast_ofNat_Int]; omega) | (simp [AV.ok, AV.ok1, AC.ok]; done) | (simp [AV.ok, AV.ok1, AC.ok]; omega) | (simp only [List.forall_mem_cons, List.not_mem_nil, false_implies, implies_true, and_true]; (repeat' apply And.intro) <;> first | exact okN_map (fun x => by simp [go_sem, AC.pure]) | exact okN_grO (fun x => by simp [go_sem, AC.pure]) | (simp [AObj.okN, AC.ok]; done) | (simp [AObj.okN, AC.ok]; omega)) | (simp [*]; done) | grind)
    exact compactQ_few e _ (by rw [List.length_take]; omega)
  obtain ⟨k1, k2, k3⟩ := hk1'
  by_cases hlt : k < l.length
  · have hsu := compactQ_succ e l k1 hlt
    rw [k3] at hsu
    have hix : ((k : Int) - 1).toNat = k - 1 := by omega
    simp (disch := first | omega | (simp only [go_sem]; first | done | omega)) only [go_sem]
    repeat' (first | ((first | refine acond_d ?_ ?_ | refine acond_b ?_ ?_ | refine ag_d ?_ ?_ | refine ag_n ?_ ?_ | refine ag_bt ?_ ?_ | refine ag_bf ?_ ?_) <;> intro c <;> try simp (disch := first | omega | (simp only [go_sem]; first | done | omega)) only [go_sem, c, he, hi, hix]) | ((first | refine w_draw (by kernel_rfl) (by decide +kernel) ?_ | refine hf l[k] (l[k - 1]'(by omega)) _ _ (List.getElem_mem _) (List.getElem_mem _) ?_) <;> try simp (disch := first | omega | (simp only [go_sem]; first | done | omega)) only [go_sem, he, hi, hix]))
    · -- two that are equal: what follows is moved up
      rw [if_pos c, List.append_nil] at hsu
      refine AWp.loop (H.length) [0, 1, 6] [7, 5] (fun (s : Nat × List Arr) => 1 ≤ s.1 ∧ k + s.1 ≤ l.length ∧ s.2.length = l.length ∧ (compactQ e (l.take (k + s.1))).length < k + s.1 ∧ s.2.take (compactQ e (l.take (k + s.1))).length = compactQ e (l.take (k + s.1)) ∧ s.2.drop (k + s.1 - 1) = l.drop (k + s.1 - 1)) (fun (s : Nat × List Arr) => [(7, (.c (.int .i64 (s.1)))), (5, (.c (.int .i64 (((compactQ e (l.take (k + s.1))).length)))))]) (fun (s : Nat × List Arr) => H.set i (.row 37 7 (s.2.map encAr) true)) (fun (s : Nat × List Arr) => l.length - s.1) (by kernel_rfl) (fun _ => rfl) (by kernel_rfl) (by first | (simp; done) | omega) (by first | (simp; done) | (simp; omega) | omega) (by (try simp only [List.forall_mem_cons, List.not_mem_nil, false_implies, implies_true, and_true]); (try simp (disch := first | omega | (simp only [go_sem]; first | done | omega)) only [go_sem]); all_goals first | trivial | (simp [AV.ok, AV.ok1, AC.ok]; done) | (simp [AV.ok, AV.ok1, AC.ok]; omega) | (simp [AV.ok, AV.ok1, AC.ok]; assumption) | ((repeat' apply And.intro) <;> first | trivial | (simp [AV.ok, AV.ok1, AC.ok]; done) | (simp [AV.ok, AV.ok1, AC.ok]; omega) | (simp [AV.ok, AV.ok1, AC.ok]; assumption) | (refine grV_ok ?_ _; first | (simp; done) | (simp; omega) | omega))) ?_ (fun s hs _ _ => ?_)
      · have hkl : (compactQ e (l.take (k + 1))).length = k := by rw [hsu, List.length_take]; omega
        refine Next.mk (1, l) ⟨Nat.le_refl _, by dsimp only; omega, rfl, by dsimp only; omega, ?_, rfl⟩ ?_
        · dsimp only
          rw [hkl]
          exact hsu.symm
        · dsimp only
          rw [hkl, set_same hi]
          (try simp (disch := first | omega | (simp only [go_sem]; first | done | omega)) only [go_sem]); (first | refine WkL.eq ?_ ?_ | refine WkL.rest (by assumption) ?_ ?_ ?_ | refine WkL.keepL (by assumption) rfl ?_ ?_ ?_ ?_) <;> first | rfl | (simp; done) | (simp; omega) | (simp only [List.cons.injEq, AV.c.injEq, AC.int.injEq, AC.bool.injEq, AC.str.injEq, and_true, true_and, Int.natCast_add, Int.natCast_one, Int.cast_ofNat_Int]; omega) | (simp [AV.ok, AV.ok1, AC.ok]; done) | (simp [AV.ok, AV.ok1, AC.ok]; omega) | (simp only [List.forall_mem_cons, List.not_mem_nil, false_implies, implies_true, and_true]; (repeat' apply And.intro) <;> first | exact okN_map (fun x => by simp [go_sem, AC.pure]) | exact okN_grO (fun x => by simp [go_sem, AC.pure]) | (simp [AObj.okN, AC.ok]; done) | (simp [AObj.okN, AC.ok]; omega)) | (simp [*]; done) | grind
      obtain ⟨m, cur⟩ := s
      obtain ⟨s1, s2, s3, s4, s5, s6⟩ := hs
      dsimp only at s1 s2 s3 s4 s5 s6 ⊢
      obtain ⟨g, hg⟩ : ∃ g, g = compactQ e (l.take (k + m)) := ⟨_, rfl⟩
      rw [← hg] at s4 s5 ⊢
      by_cases hm : k + m < l.length
      · have hnx := compactQ_succ e l (show 1 ≤ k + m by omega) hm
        rw [← hg] at hnx
        have hjc : k + m < cur.length := by omega
        have hjc2 : k + m - 1 < cur.length := by omega
        have hc1 : cur[k + m] = l[k + m] := by
          have h1 := congrArg (fun z => z[1]?) s6
          simp only [List.getElem?_drop] at h1
          rw [show k + m - 1 + 1 = k + m by omega, List.getElem?_eq_getElem hjc, List.getElem?_eq_getElem hm] at h1
          exact Option.some.inj h1
        have hc0 : cur[k + m - 1] = l[k + m - 1] := by
          have h1 := congrArg (fun z => z[0]?) s6
          simp only [List.getElem?_drop, Nat.add_zero] at h1
          rw [List.getElem?_eq_getElem hjc2, List.getElem?_eq_getElem (by omega : k + m - 1 < l.length)] at h1
          exact Option.some.inj h1
        have hgc : g.length < cur.length := by omega
        have hc0' : cur[k + ((m : Int) - 1).toNat]'(by omega) = l[k + m - 1] := by
          have e : k + ((m : Int) - 1).toNat = k + m - 1 := by omega
          simp only [e]
          exact hc0
        have hdr : cur.drop (k + m) = l.drop (k + m) := by
          have h1 := congrArg (List.drop 1) s6
          rw [List.drop_drop, List.drop_drop, show k + m - 1 + 1 = k + m by omega] at h1
          exact h1
        simp (disch := first | omega | (simp only [go_sem]; first | done | omega)) only [go_sem]
        repeat' (first | ((first | refine acond_d ?_ ?_ | refine acond_b ?_ ?_ | refine ag_d ?_ ?_ | refine ag_n ?_ ?_ | refine ag_bt ?_ ?_ | refine ag_bf ?_ ?_) <;> intro c <;> try simp (disch := first | omega | (simp only [go_sem]; first | done | omega)) only [go_sem, c, he, hc1, hc0']) | ((first | refine w_draw (by kernel_rfl) (by decide +kernel) ?_ | refine hf l[k + m] (l[k + m - 1]'(by omega)) _ _ (List.getElem_mem _) (List.getElem_mem _) ?_) <;> try simp (disch := first | omega | (simp only [go_sem]; first | done | omega)) only [go_sem, he, hc1, hc0']))
        · rw [if_pos c, List.append_nil] at hnx
          refine Next.mk (m + 1, cur) ?_ ?_
          · dsimp only
            rw [← Nat.add_assoc, hnx, show k + m + 1 - 1 = k + m by omega]
            exact ⟨⟨by omega, by omega, s3, by omega, s5, hdr⟩, by omega⟩
          · dsimp only
            rw [← Nat.add_assoc, hnx]
            (try simp (disch := first | omega | (simp only [go_sem]; first | done | omega)) only [go_sem]); (first | refine WkL.eq ?_ ?_ | refine WkL.rest (by assumption) ?_ ?_ ?_ | refine WkL.keepL (by assumption) rfl ?_ ?_ ?_ ?_) <;> first | rfl | (simp; done) | (simp; omega) | (simp only [List.cons.injEq, AV.c.injEq, AC.int.injEq, AC.bool.injEq, AC.str.injEq, and_true, true_and, Int.natCast_add, Int.natCast_one, Int.cast_ofNat_Int]; omega) | (simp [AV.ok, AV.ok1, AC.ok]; done) | (simp [AV.ok, AV.ok1, AC.ok]; omega) | (simp only [List.forall_mem_cons, List.not_mem_nil, false_implies, implies_true, and_true]; (repeat' apply And.intro) <;> first | exact okN_map (fun x => by simp [go_sem, AC.pure]) | exact okN_grO (fun x => by simp [go_sem, AC.pure]) | (simp [AObj.okN, AC.ok]; done) | (simp [AObj.okN, AC.ok]; omega)) | (simp [*]; done) | grind
        · rw [if_neg (by simp [c])] at hnx
          have hset : (cur.map encAr).set g.length (encAr l[k + m]) = (cur.set g.length l[k + m]).map encAr := by rw [List.map_set]
          simp only [encAr] at hset
          refine Next.mk (m + 1, cur.set g.length l[k + m]) ?_ ?_
          · dsimp only
            rw [← Nat.add_assoc, hnx, show k + m + 1 - 1 = k + m by omega]
            refine ⟨⟨by omega, by omega, by simpa using s3, by simp; omega, ?_, ?_⟩, by omega⟩
            · rw [List.length_append, List.length_singleton, List.take_succ_eq_append_getElem (by simpa using hgc), List.getElem_set_self]
              congr 1
              rw [List.take_set_of_le (Nat.le_refl _)]
              exact s5
            · rw [List.drop_set_of_lt (by omega)]
              exact hdr
          · dsimp only
            rw [← Nat.add_assoc, hnx, ← hset]
            (try simp (disch := first | omega | (simp only [go_sem]; first | done | omega)) only [go_sem]); (first | refine WkL.eq ?_ ?_ | refine WkL.rest (by assumption) ?_ ?_ ?_ | refine WkL.keepL (by assumption) rfl ?_ ?_ ?_ ?_) <;> first | rfl | (simp; done) | (simp; omega) | (simp only [List.cons.injEq, AV.c.injEq, AC.int.injEq, AC.bool.injEq, AC.str.injEq, and_true, true_and, Int.natCast_add, Int.natCast_one, Int.cast_ofNat_Int]; omega) | (simp [AV.ok, AV.ok1, AC.ok]; done) | (simp [AV.ok, AV.ok1, AC.ok]; omega) | (simp only [List.forall_mem_cons, List.not_mem_nil, false_implies, implies_true, and_true]; (repeat' apply And.intro) <;> first | exact okN_map (fun x => by simp [go_sem, AC.pure]) | exact okN_grO (fun x => by simp [go_sem, AC.pure]) | (simp [AObj.okN, AC.ok]; done) | (simp [AObj.okN, AC.ok]; omega)) | (simp [*]; done) | grind
      · have hjl : k + m = l.length := by omega
        rw [hjl, List.take_length] at hg
        rw [← hg] at hk
        simp (disch := first | omega | (simp only [go_sem]; first | done | omega)) only [go_sem]
        refine aclr_pos _ _ (List.getElem?_set_self hilt) (by omega) rfl (by simp; omega) ?_
        rw [List.set_set, ← List.map_take, s5]
        simp (disch := first | omega | (simp only [go_sem]; first | done | omega)) only [go_sem]
        refine Ret.frzDead (List.getElem?_set_self hilt) (pureL_map _ (fun x => by simp [go_sem, AC.pure])) (by simp) (by simp) ?_
        rw [List.set_set, List.take_of_length_le (by simp)]
        exact hk
    · rw [if_neg (by simp [c])] at hsu
      refine Next.mk (k + 1) ⟨⟨by omega, by omega, ?_⟩, by omega⟩ (by (try simp (disch := first | omega | (simp only [go_sem]; first | done | omega)) only [go_sem]); (first | refine WkL.eq ?_ ?_ | refine WkL.rest (by assumption) ?_ ?_ ?_ | refine WkL.keepL (by assumption) rfl ?_ ?_ ?_ ?_) <;> first | rfl | (simp; done) | (simp; omega) | (simp only [List.cons.injEq, AV.c.injEq, AC.int.injEq, AC.bool.injEq, AC.str.injEq, and_true, true_and, Int.natCast_add, Int.natCast_one, Int.cast_ofNat_Int]; omega) | (simp [AV.ok, AV.ok1, AC.ok]; done) | (simp [AV.ok, AV.ok1, AC.ok]; omega) | (simp only [List.forall_mem_cons, List.not_mem_nil, false_implies, implies_true, and_true]; (repeat' apply And.intro) <;> first | exact okN_map (fun x => by simp [go_sem, AC.pure]) | exact okN_grO (fun x => by simp [go_sem, AC.pure]) | (simp [AObj.okN, AC.ok]; done) | (simp [AObj.okN, AC.ok]; omega)) | (simp [*]; done) | grind)
      rw [hsu, List.take_succ_eq_append_getElem hlt]
  · have hkl : k = l.length := by omega
    subst hkl
    rw [List.take_length] at k3
    rw [k3] at hk
    simp (disch := first | omega | (simp only [go_sem]; first | done | omega)) only [go_sem]
    refine Ret.frzDead hi (pureL_map _ (fun x => by simp [go_sem, AC.pure])) (by simp) (Nat.le_refl _) ?_
    rw [List.take_of_length_le (by simp)]
    exact hk
theorem compactFuncNilAr_a {f : FuncId} (hk : K (.c (.lst 7 [])) H) : ACalls Tryz.prog 80 [.c (.sl none 0), .c (.fn f [] [])] H K := by
  refine acalls Tryz.func80 rfl (by kernel_rfl) (by simp (disch := first | omega | (simp only [go_sem]; first | done | omega)) only [go_sem]) (fun hH => ?_)
  simp (disch := first | omega | (simp only [go_sem]; first | done | omega)) only [go_sem]
  refine Ret.nil [7] (Nat.le_refl _) ?_
  exact Ret.same (Nat.le_refl _) hk
theorem compactFuncVAr_a {f : FuncId} {e : Arr → Arr → Bool} (he : entersB Tryz.prog f = true) (l : List Arr) (hf : ∀ (x y : Arr) (H : Hp) (K : AV → Hp → Prop), x ∈ l → y ∈ l → K (.c (.bool (e x y))) H → ACalls Tryz.prog f [.agg (encAr x), .agg (encAr y)] H K) {i : Nat} (hi : H[i]? = some (grO 37 7 (l.map encAr))) (hlen : l.length ≤ 1000000)
    (hk : K (.c (.lst 7 ((compactQ e l).map encAr))) (H.set i .dead)) :
    ACalls Tryz.prog 80 [.c (grV i l), .c (.fn f [] [])] H K := by
  by_cases h : l = []
  · subst h
    have hi2 : H[i]? = some AObj.dead := hi
    rw [set_same hi2] at hk
    exact compactFuncNilAr_a hk
  · have h2 : l.map encAr ≠ [] := by simpa using h
    rw [grO_pos _ _ h2] at hi
    rw [grV_pos _ h]
    exact compactFuncAr_a he l hf hi rfl hlen hk
theorem arr1_a (x y : Arr) (hx : arOk x) (hy : arOk y) (hk : K (.c (.bool (decide (arrC x y = 0)))) H) : ACalls Tryz.prog 81 [.agg (encAr x), .agg (encAr y)] H K := by
  refine acalls Tryz.func81 rfl (by kernel_rfl) (by simp (disch := first | omega | (simp only [go_sem]; first | done | omega)) only [go_sem]) (fun hH => ?_)
  simp (disch := first | omega | (simp only [go_sem]; first | done | omega)) only [go_sem]
  refine arrivalOrder_a x y hx.1 hy.1 hx.2 hy.2 ?_
  simp (disch := first | omega | (simp only [go_sem]; first | done | omega)) only [go_sem]
  exact Ret.drop hH (Nat.le_refl _) trivial hk
theorem arrivals_a (s : Nat) (zs : List Int) (j many : Int) (hs : Str H s zs j) (hj : j ≤ 1000000000) (hm0 : 0 ≤ many) (hm1 : many ≤ 10)
    (hk : ∀ (l : List Arr) (j' : Int), j ≤ j' → j' ≤ j + 20 * many → (l.length : Int) ≤ many → (∀ x ∈ l, arFine x) → K (.c (.lst 7 (l.map encAr))) (H.set s (strO zs j'))) :
    ACalls Tryz.prog 29 [.c (.ptr (some (s, 0, 0))), (.c (.int .i64 many))] H K := by
  have hlt := hs.lt
  have hpos := hs.pos
  have hne : H.length ≠ s := by omega
  refine acallsS Tryz.func29 rfl (by simp (disch := first | omega | (simp only [go_sem]; first | done | omega)) only [go_sem]) (fun hH => ?_)
  (refine SWp.go (by kernel_rfl) ?_; simp (disch := first | omega | (simp only [go_sem]; first | done | omega)) only [go_sem])
  (refine SWp.go (by kernel_rfl) ?_; simp (disch := first | omega | (simp only [go_sem]; first | done | omega)) only [go_sem])
  (refine SWp.go (by kernel_rfl) ?_; simp (disch := first | omega | (simp only [go_sem]; first | done | omega)) only [go_sem])
  refine SWp.thn ?_
  (refine SWp.go (by kernel_rfl) ?_; simp (disch := first | omega | (simp only [go_sem]; first | done | omega)) only [go_sem])
  refine SWp.inB ?_
  refine SWp.loop (H.length) [0, 10] [11, 5, 6] (fun (q : Nat × List Arr × Int × Int) => (q.1 : Int) ≤ many ∧ q.2.1.length = q.1 ∧ (∀ x ∈ q.2.1, arFine x) ∧ (0 ≤ q.2.2.1 ∧ q.2.2.1 ≤ 10 + 20 * q.1) ∧ j ≤ q.2.2.2 ∧ q.2.2.2 ≤ j + 20 * q.1) (fun (q : Nat × List Arr × Int × Int) => [(11, (.c (.int .i64 (q.1)))), (5, .c (grV H.length q.2.1)), (6, (.c (.int .i64 (q.2.2.1))))]) (fun (q : Nat × List Arr × Int × Int) => H.set s (strO zs q.2.2.2) ++ [grO 37 7 (q.2.1.map encAr)]) (fun (q : Nat × List Arr × Int × Int) => many.toNat - q.1) (fun _ => rfl) (by kernel_rfl) (by first | (simp; done) | omega) (by first | (simp; done) | (simp; omega) | omega) (by (try simp only [List.forall_mem_cons, List.not_mem_nil, false_implies, implies_true, and_true]); (try simp (disch := first | omega | (simp only [go_sem]; first | done | omega)) only [go_sem]); all_goals first | trivial | (simp [AV.ok, AV.ok1, AC.ok]; done) | (simp [AV.ok, AV.ok1, AC.ok]; omega) | (simp [AV.ok, AV.ok1, AC.ok]; assumption) | ((repeat' apply And.intro) <;> first | trivial | (simp [AV.ok, AV.ok1, AC.ok]; done) | (simp [AV.ok, AV.ok1, AC.ok]; omega) | (simp [AV.ok, AV.ok1, AC.ok]; assumption) | (refine grV_ok ?_ _; first | (simp; done) | (simp; omega) | omega))) ?_ (fun q hq _ _ => ?_)
  · refine Next.mk (0, [], 10, j) ⟨by simpa using hm0, rfl, by simp, by simp, by simp, by simp⟩ ?_
    dsimp only
    rw [set_same hs.2.2.2]
    exact WkL.pad (Nat.le_refl _)
  obtain ⟨k, l, tm, j1⟩ := q
  obtain ⟨q1, q2, q3, ⟨q4, q5⟩, q6, q7⟩ := hq
  dsimp only at q1 q2 q3 q4 q5 q6 q7 ⊢
  by_cases hkl : (k : Int) < many
  · refine SWp.go (by kernel_rfl) ?_
    simp (disch := first | omega | (simp only [go_sem]; first | done | omega)) only [go_sem, hkl]
    refine SWp.go (by kernel_rfl) ?_
    simp (disch := first | omega | (simp only [go_sem]; first | done | omega)) only [go_sem]
    refine SWp.thn (SWp.inB ?_)
    refine SWp.go (by kernel_rfl) ?_
    simp (disch := first | omega | (simp only [go_sem]; first | done | omega)) only [go_sem]
    refine pick_lit s zs j1 [0, 1, 5, 20] (by first | exact at0 (by simp) | exact at1 (by simp) | exact at2 (by simp) | exact at3 (by simp) | exact at4 (by simp) | exact at5 (by simp) | exact atG 6 (by simp) rfl | exact atG 7 (by simp) rfl | exact atG 8 (by simp) rfl | exact atG 9 (by simp) rfl | exact atG 10 (by simp) rfl | exact atG 11 (by simp) rfl | exact atG 12 (by simp) rfl | exact atG 13 (by simp) rfl | exact atG 14 (by simp) rfl | exact atG 15 (by simp) rfl | assumption) rfl rfl (by first | exact hs | exact hs.app _ | exact hs.set (by omega) (by omega) | exact (hs.set (by omega) (by omega)).app _) (by omega) (by simp) (by simp) (fun d hd => ?_)
    simp only [List.mem_cons, List.not_mem_nil, or_false] at hd
    simp (disch := first | omega | (simp only [go_sem]; first | done | omega)) only [go_sem]
    (refine SWp.go (by kernel_rfl) ?_; simp (disch := first | omega | (simp only [go_sem]; first | done | omega)) only [go_sem])
    refine some_lit s zs (j1 + 1) [⟨#[110, 97]⟩, ⟨#[110, 97]⟩, ⟨#[110, 98]⟩] (by first | exact at0 (by simp) | exact at1 (by simp) | exact at2 (by simp) | exact at3 (by simp) | exact at4 (by simp) | exact at5 (by simp) | exact atG 6 (by simp) rfl | exact atG 7 (by simp) rfl | exact atG 8 (by simp) rfl | exact atG 9 (by simp) rfl | exact atG 10 (by simp) rfl | exact atG 11 (by simp) rfl | exact atG 12 (by simp) rfl | exact atG 13 (by simp) rfl | exact atG 14 (by simp) rfl | exact atG 15 (by simp) rfl | assumption) rfl rfl (by first | exact hs | exact hs.app _ | exact hs.set (by omega) (by omega) | exact (hs.set (by omega) (by omega)).app _) (by omega) (by simp) (by simp) (fun nd hnd => ?_)
    have hns : nd.size ≤ 1000 := by
      have : ∀ x ∈ [(⟨#[110, 97]⟩ : ByteArray), ⟨#[110, 97]⟩, ⟨#[110, 98]⟩], x.size ≤ 1000 := by decide
      exact this nd hnd
    simp (disch := first | omega | (simp only [go_sem]; first | done | omega)) only [go_sem]
    (refine SWp.go (by kernel_rfl) ?_; simp (disch := first | omega | (simp only [go_sem]; first | done | omega)) only [go_sem])
    refine range_a s zs (j1 + 1 + 1) 1 8 (by first | exact hs | exact hs.app _ | exact hs.set (by omega) (by omega) | exact (hs.set (by omega) (by omega)).app _) (by omega) (by omega) (by omega) (fun sq s1 s2 => ?_)
    simp (disch := first | omega | (simp only [go_sem]; first | done | omega)) only [go_sem]
    clear hnd
    obtain ⟨tg, hts, hel⟩ : ∃ tg : ByteArray, tg.size ≤ 1000 ∧ ∀ h, ([[AC.str ⟨#[116, 97]⟩], [AC.str ⟨#[116, 98]⟩], [AC.str ⟨#[116, 97]⟩]] : List (List AC))[(sq % 3).toNat]'h = [AC.str tg] := by
      have h3 : (sq % 3).toNat = 0 ∨ (sq % 3).toNat = 1 ∨ (sq % 3).toNat = 2 := by omega
      rcases h3 with h | h | h
      · exact ⟨⟨#[116, 97]⟩, by decide, fun _ => by simp only [h]; rfl⟩
      · exact ⟨⟨#[116, 98]⟩, by decide, fun _ => by simp only [h]; rfl⟩
      · exact ⟨⟨#[116, 97]⟩, by decide, fun _ => by simp only [h]; rfl⟩
    refine SWp.cut (H.length + 1) [0, 10, 11, 5, 6, 7, 8] [9] (fun (u : Arr) => arFine u) (fun (u : Arr) => [(9, .c (.ptr (some (H.length + 1, 0, 0))))]) (fun (u : Arr) => H.set s (strO zs (j1 + 1 + 1 + 1 + 1)) ++ [grO 37 7 (l.map encAr), .row 37 7 [encAr u] true]) (fun _ => rfl) (by kernel_rfl) (by first | (simp; done) | omega) (by first | (simp; done) | (simp; omega) | omega) (by (try simp only [List.forall_mem_cons, List.not_mem_nil, false_implies, implies_true, and_true]); (try simp (disch := first | omega | (simp only [go_sem]; first | done | omega)) only [go_sem]); all_goals first | trivial | (simp [AV.ok, AV.ok1, AC.ok]; done) | (simp [AV.ok, AV.ok1, AC.ok]; omega) | (simp [AV.ok, AV.ok1, AC.ok]; assumption) | ((repeat' apply And.intro) <;> first | trivial | (simp [AV.ok, AV.ok1, AC.ok]; done) | (simp [AV.ok, AV.ok1, AC.ok]; omega) | (simp [AV.ok, AV.ok1, AC.ok]; assumption) | (refine grV_ok ?_ _; first | (simp; done) | (simp; omega) | omega))) ?_ (fun u hu _ _ => ?_)
    · refine SWp.of (by kernel_rfl) ?_
      repeat' (first | ((first | refine acond_d ?_ ?_ | refine acond_b ?_ ?_ | refine ag_d ?_ ?_ | refine ag_n ?_ ?_ | refine ag_bt ?_ ?_ | refine ag_bf ?_ ?_ | refine agt_d ?_ ?_ | refine agt_n ?_ ?_ | refine agt_bt ?_ ?_ | refine agt_bf ?_ ?_) <;> intro c <;> try simp (disch := first | omega | (simp only [go_sem]; first | done | omega)) only [go_sem, c, hel]) | ((first | refine w_draw (by kernel_rfl) (by decide +kernel) ?_ | refine pick_lit s zs (j1 + 1 + 1 + 1) [0, 0, 0, 0, 0, 0, 1] (by first | exact at0 (by simp) | exact at1 (by simp) | exact at2 (by simp) | exact at3 (by simp) | exact at4 (by simp) | exact at5 (by simp) | exact atG 6 (by simp) rfl | exact atG 7 (by simp) rfl | exact atG 8 (by simp) rfl | exact atG 9 (by simp) rfl | exact atG 10 (by simp) rfl | exact atG 11 (by simp) rfl | exact atG 12 (by simp) rfl | exact atG 13 (by simp) rfl | exact atG 14 (by simp) rfl | exact atG 15 (by simp) rfl | assumption) rfl rfl (by first | exact hs | exact hs.app _ | exact hs.set (by omega) (by omega) | exact (hs.set (by omega) (by omega)).app _) (by omega) (by simp) (by simp) (fun e he => ?_) | refine w_tree (.one 0 (.one 1 (.one 2 (.one 4 (.one 5 (.one 8 (.one 9 (.one 10 (.one 14 (.three 3 (.three 6 (.three 7 (.two 11 (.two 12 (.one 13 (.one 15 (.one 16 (.one 17 (.one 18 (.one 19 .done)))))) 18 (.one 12 (.one 13 (.one 15 (.one 16 (.one 17 (.one 19 .done))))))) 18 (.one 11 (.one 12 (.one 13 (.one 15 (.one 16 (.one 17 (.one 19 .done)))))))) 11 (.three 7 (.two 12 (.one 13 (.one 15 (.one 16 (.one 17 (.one 18 (.one 19 .done)))))) 18 (.one 12 (.one 13 (.one 15 (.one 16 (.one 17 (.one 19 .done))))))) 12 (.one 7 (.one 13 (.one 15 (.one 16 (.one 17 (.one 18 (.one 19 .done))))))) 18 (.two 7 (.one 12 (.one 13 (.one 15 (.one 16 (.one 17 (.one 19 .done)))))) 12 (.one 7 (.one 13 (.one 15 (.one 16 (.one 17 (.one 19 .done)))))))) 18 (.two 7 (.one 11 (.one 12 (.one 13 (.one 15 (.one 16 (.one 17 (.one 19 .done))))))) 11 (.two 7 (.one 12 (.one 13 (.one 15 (.one 16 (.one 17 (.one 19 .done)))))) 12 (.one 7 (.one 13 (.one 15 (.one 16 (.one 17 (.one 19 .done))))))))) 11 (.three 6 (.three 7 (.two 12 (.one 13 (.one 15 (.one 16 (.one 17 (.one 18 (.one 19 .done)))))) 18 (.one 12 (.one 13 (.one 15 (.one 16 (.one 17 (.one 19 .done))))))) 12 (.one 7 (.one 13 (.one 15 (.one 16 (.one 17 (.one 18 (.one 19 .done))))))) 18 (.two 7 (.one 12 (.one 13 (.one 15 (.one 16 (.one 17 (.one 19 .done)))))) 12 (.one 7 (.one 13 (.one 15 (.one 16 (.one 17 (.one 19 .done)))))))) 12 (.one 6 (.one 7 (.one 13 (.one 15 (.one 16 (.one 17 (.one 18 (.one 19 .done)))))))) 18 (.two 6 (.two 7 (.one 12 (.one 13 (.one 15 (.one 16 (.one 17 (.one 19 .done)))))) 12 (.one 7 (.one 13 (.one 15 (.one 16 (.one 17 (.one 19 .done))))))) 12 (.one 6 (.one 7 (.one 13 (.one 15 (.one 16 (.one 17 (.one 19 .done))))))))) 18 (.two 6 (.two 7 (.one 11 (.one 12 (.one 13 (.one 15 (.one 16 (.one 17 (.one 19 .done))))))) 11 (.two 7 (.one 12 (.one 13 (.one 15 (.one 16 (.one 17 (.one 19 .done)))))) 12 (.one 7 (.one 13 (.one 15 (.one 16 (.one 17 (.one 19 .done)))))))) 11 (.two 6 (.two 7 (.one 12 (.one 13 (.one 15 (.one 16 (.one 17 (.one 19 .done)))))) 12 (.one 7 (.one 13 (.one 15 (.one 16 (.one 17 (.one 19 .done))))))) 12 (.one 6 (.one 7 (.one 13 (.one 15 (.one 16 (.one 17 (.one 19 .done)))))))))) 11 (.three 3 (.three 6 (.three 7 (.two 12 (.one 13 (.one 15 (.one 16 (.one 17 (.one 18 (.one 19 .done)))))) 18 (.one 12 (.one 13 (.one 15 (.one 16 (.one 17 (.one 19 .done))))))) 12 (.one 7 (.one 13 (.one 15 (.one 16 (.one 17 (.one 18 (.one 19 .done))))))) 18 (.two 7 (.one 12 (.one 13 (.one 15 (.one 16 (.one 17 (.one 19 .done)))))) 12 (.one 7 (.one 13 (.one 15 (.one 16 (.one 17 (.one 19 .done)))))))) 12 (.one 6 (.one 7 (.one 13 (.one 15 (.one 16 (.one 17 (.one 18 (.one 19 .done)))))))) 18 (.two 6 (.two 7 (.one 12 (.one 13 (.one 15 (.one 16 (.one 17 (.one 19 .done)))))) 12 (.one 7 (.one 13 (.one 15 (.one 16 (.one 17 (.one 19 .done))))))) 12 (.one 6 (.one 7 (.one 13 (.one 15 (.one 16 (.one 17 (.one 19 .done))))))))) 12 (.one 13 (.one 15 (.two 3 (.one 6 (.one 7 (.one 16 (.one 17 (.one 18 (.one 19 .done)))))) 18 (.one 3 (.one 6 (.one 7 (.one 16 (.one 17 (.one 19 .done))))))))) 18 (.two 3 (.two 6 (.two 7 (.one 12 (.one 13 (.one 15 (.one 16 (.one 17 (.one 19 .done)))))) 12 (.one 7 (.one 13 (.one 15 (.one 16 (.one 17 (.one 19 .done))))))) 12 (.one 6 (.one 7 (.one 13 (.one 15 (.one 16 (.one 17 (.one 19 .done)))))))) 12 (.one 13 (.one 15 (.one 3 (.one 6 (.one 7 (.one 16 (.one 17 (.one 19 .done)))))))))) 18 (.two 3 (.two 6 (.two 7 (.one 11 (.one 12 (.one 13 (.one 15 (.one 16 (.one 17 (.one 19 .done))))))) 11 (.two 7 (.one 12 (.one 13 (.one 15 (.one 16 (.one 17 (.one 19 .done)))))) 12 (.one 7 (.one 13 (.one 15 (.one 16 (.one 17 (.one 19 .done)))))))) 11 (.two 6 (.two 7 (.one 12 (.one 13 (.one 15 (.one 16 (.one 17 (.one 19 .done)))))) 12 (.one 7 (.one 13 (.one 15 (.one 16 (.one 17 (.one 19 .done))))))) 12 (.one 6 (.one 7 (.one 13 (.one 15 (.one 16 (.one 17 (.one 19 .done))))))))) 11 (.two 3 (.two 6 (.two 7 (.one 12 (.one 13 (.one 15 (.one 16 (.one 17 (.one 19 .done)))))) 12 (.one 7 (.one 13 (.one 15 (.one 16 (.one 17 (.one 19 .done))))))) 12 (.one 6 (.one 7 (.one 13 (.one 15 (.one 16 (.one 17 (.one 19 .done)))))))) 12 (.one 13 (.one 15 (.one 3 (.one 6 (.one 7 (.one 16 (.one 17 (.one 19 .done)))))))))))))))))))) (by kernel_rfl) (by decide +kernel) ?_) <;> try simp (disch := first | omega | (simp only [go_sem]; first | done | omega)) only [go_sem, hel]) | (refine And.intro ?_ ?_ <;> try simp (disch := first | omega | (simp only [go_sem]; first | done | omega)) only [go_sem, hel]))
      all_goals
        simp only [List.mem_cons, List.not_mem_nil, or_false] at he
        refine Next.mk (⟨nd, tm + d, ⟨sq, tg, ⟨7 * sq - e, sq, 0⟩⟩⟩ : Arr) ⟨hns, hts, by dsimp only; omega, by dsimp only; omega, by dsimp only; omega⟩ ?_
        ((try simp (disch := first | omega | (simp only [go_sem]; first | done | omega)) only [go_sem]); (first | refine WkL.pickAt [_] [0] ?_ ?_ ?_ rfl ?_ ?_ ?_ ?_ | refine WkL.pickAt [_] [1] ?_ ?_ ?_ rfl ?_ ?_ ?_ ?_ | refine WkL.pickAt [_] [2] ?_ ?_ ?_ rfl ?_ ?_ ?_ ?_ | refine WkL.pickAt [_] [3] ?_ ?_ ?_ rfl ?_ ?_ ?_ ?_ | refine WkL.pickAt [_] [4] ?_ ?_ ?_ rfl ?_ ?_ ?_ ?_ | refine WkL.pickAt [_] [5] ?_ ?_ ?_ rfl ?_ ?_ ?_ ?_ | refine WkL.pickAt [_] [6] ?_ ?_ ?_ rfl ?_ ?_ ?_ ?_ | refine WkL.pickAt [_] [7] ?_ ?_ ?_ rfl ?_ ?_ ?_ ?_ | refine WkL.pickAt [_] [8] ?_ ?_ ?_ rfl ?_ ?_ ?_ ?_ | refine WkL.pickAt [_] [9] ?_ ?_ ?_ rfl ?_ ?_ ?_ ?_ | refine WkL.pickAt [_] [10] ?_ ?_ ?_ rfl ?_ ?_ ?_ ?_ | refine WkL.pickAt [_] [11] ?_ ?_ ?_ rfl ?_ ?_ ?_ ?_ | refine WkL.pickAt [_] [12] ?_ ?_ ?_ rfl ?_ ?_ ?_ ?_ | refine WkL.pickAt [_] [13] ?_ ?_ ?_ rfl ?_ ?_ ?_ ?_ | refine WkL.pickAt [_] [14] ?_ ?_ ?_ rfl ?_ ?_ ?_ ?_ | refine WkL.pickAt [_] [15] ?_ ?_ ?_ rfl ?_ ?_ ?_ ?_ | refine WkL.pickAt [_] [16] ?_ ?_ ?_ rfl ?_ ?_ ?_ ?_ | refine WkL.pickAt [_] [17] ?_ ?_ ?_ rfl ?_ ?_ ?_ ?_) <;> first | assumption | exact HOk.str (by assumption) | (simp; done) | (simp; omega) | (simp [pureO_gr, AObj.pureO, pureL, go_sem, AC.pure]; done) | (simp only [List.all_cons, List.all_nil, Bool.and_true]; exact pureO_gr (pureL_map _ (fun x => by simp [go_sem, AC.pure]))) | ((try simp only [List.map_cons, List.map_nil, av_ren_gr]); simp [AV.ren, AV.ren1, AC.ren, renP, pickS]; first | done | omega) | (simp only [List.forall_mem_cons, List.not_mem_nil, false_implies, implies_true, and_true]; (repeat' apply And.intro) <;> first | trivial | exact grV_ok (by simp) _ | exact okN_grO (fun x => by simp [go_sem, AC.pure]) | exact okN_map (fun x => by simp [go_sem, AC.pure]) | (simp [AV.ok, AV.ok1, AC.ok]; done) | (simp [AV.ok, AV.ok1, AC.ok]; omega) | (simp [AObj.okN, AC.ok]; done)) | (simp [AObj.okN]; done))
    refine SWp.cut (H.length + 2) [0, 10, 11, 5, 6, 7, 8, 9] [] (fun (u : Arr) => arFine u) (fun (u : Arr) => []) (fun (u : Arr) => H.set s (strO zs (j1 + 1 + 1 + 1 + 1)) ++ [grO 37 7 (l.map encAr), .row 37 7 [encAr u] true]) (fun _ => rfl) (by kernel_rfl) (by first | (simp; done) | omega) (by first | (simp; done) | (simp; omega) | omega) (by (try simp only [List.forall_mem_cons, List.not_mem_nil, false_implies, implies_true, and_true]); (try simp (disch := first | omega | (simp only [go_sem]; first | done | omega)) only [go_sem]); all_goals first | trivial | (simp [AV.ok, AV.ok1, AC.ok]; done) | (simp [AV.ok, AV.ok1, AC.ok]; omega) | (simp [AV.ok, AV.ok1, AC.ok]; assumption) | ((repeat' apply And.intro) <;> first | trivial | (simp [AV.ok, AV.ok1, AC.ok]; done) | (simp [AV.ok, AV.ok1, AC.ok]; omega) | (simp [AV.ok, AV.ok1, AC.ok]; assumption) | (refine grV_ok ?_ _; first | (simp; done) | (simp; omega) | omega))) ?_ (fun u hu _ _ => ?_)
    · refine SWp.of (by kernel_rfl) ?_
      obtain ⟨h1, h2, h3, h4, h5⟩ := hu
      by_cases hb : nd = ⟨#[110, 98]⟩
      · simp (disch := first | omega | (simp only [go_sem]; first | done | omega)) only [go_sem, hb]
        refine Next.mk (⟨u.nd, u.t, ⟨u.p.n, ⟨#[116, 97]⟩, ⟨6 * sq, u.p.s.v, u.p.s.q⟩⟩⟩ : Arr) ⟨h1, (by decide : (⟨#[116, 97]⟩ : ByteArray).size ≤ 1000), h3, h4, h5⟩ ?_
        (try simp (disch := first | omega | (simp only [go_sem]; first | done | omega)) only [go_sem]); (first | refine WkL.eq ?_ ?_ | refine WkL.rest (by assumption) ?_ ?_ ?_ | refine WkL.keepL (by assumption) rfl ?_ ?_ ?_ ?_) <;> first | rfl | (simp; done) | (simp; omega) | (simp only [List.cons.injEq, AV.c.injEq, AC.int.injEq, AC.bool.injEq, AC.str.injEq, and_true, true_and, Int.natCast_add, Int.natCast_one, Int.cast_ofNat_Int]; omega) | (simp [AV.ok, AV.ok1, AC.ok]; done) | (simp [AV.ok, AV.ok1, AC.ok]; omega) | (simp only [List.forall_mem_cons, List.not_mem_nil, false_implies, implies_true, and_true]; (repeat' apply And.intro) <;> first | exact okN_map (fun x => by simp [go_sem, AC.pure]) | exact okN_grO (fun x => by simp [go_sem, AC.pure]) | (simp [AObj.okN, AC.ok]; done) | (simp [AObj.okN, AC.ok]; omega)) | (simp [*]; done) | grind
      · simp (disch := first | omega | (simp only [go_sem]; first | done | omega)) only [go_sem, hb]
        refine Next.mk u ⟨h1, h2, h3, h4, h5⟩ ?_
        (try simp (disch := first | omega | (simp only [go_sem]; first | done | omega)) only [go_sem]); (first | refine WkL.eq ?_ ?_ | refine WkL.rest (by assumption) ?_ ?_ ?_ | refine WkL.keepL (by assumption) rfl ?_ ?_ ?_ ?_) <;> first | rfl | (simp; done) | (simp; omega) | (simp only [List.cons.injEq, AV.c.injEq, AC.int.injEq, AC.bool.injEq, AC.str.injEq, and_true, true_and, Int.natCast_add, Int.natCast_one, Int.cast_ofNat_Int]; omega) | (simp [AV.ok, AV.ok1, AC.ok]; done) | (simp [AV.ok, AV.ok1, AC.ok]; omega) | (simp only [List.forall_mem_cons, List.not_mem_nil, false_implies, implies_true, and_true]; (repeat' apply And.intro) <;> first | exact okN_map (fun x => by simp [go_sem, AC.pure]) | exact okN_grO (fun x => by simp [go_sem, AC.pure]) | (simp [AObj.okN, AC.ok]; done) | (simp [AObj.okN, AC.ok]; omega)) | (simp [*]; done) | grind
    refine SWp.cut (H.length + 2) [0, 10, 11, 5, 6, 9] [] (fun (u : Arr × Int) => arFine u.1 ∧ j1 + 4 ≤ u.2 ∧ u.2 ≤ j1 + 18) (fun (u : Arr × Int) => []) (fun (u : Arr × Int) => H.set s (strO zs u.2) ++ [grO 37 7 (l.map encAr), .row 37 7 [encAr u.1] true]) (fun _ => rfl) (by kernel_rfl) (by first | (simp; done) | omega) (by first | (simp; done) | (simp; omega) | omega) (by (try simp only [List.forall_mem_cons, List.not_mem_nil, false_implies, implies_true, and_true]); (try simp (disch := first | omega | (simp only [go_sem]; first | done | omega)) only [go_sem]); all_goals first | trivial | (simp [AV.ok, AV.ok1, AC.ok]; done) | (simp [AV.ok, AV.ok1, AC.ok]; omega) | (simp [AV.ok, AV.ok1, AC.ok]; assumption) | ((repeat' apply And.intro) <;> first | trivial | (simp [AV.ok, AV.ok1, AC.ok]; done) | (simp [AV.ok, AV.ok1, AC.ok]; omega) | (simp [AV.ok, AV.ok1, AC.ok]; assumption) | (refine grV_ok ?_ _; first | (simp; done) | (simp; omega) | omega))) ?_ (fun u hu _ _ => ?_)
    · refine SWp.of (by kernel_rfl) ?_
      obtain ⟨h1, h2, h3, h4, h5⟩ := hu
      simp (disch := first | omega | (simp only [go_sem]; first | done | omega)) only [go_sem]
      refine flip_a s zs (j1 + 1 + 1 + 1 + 1) 100 (by first | exact hs | exact hs.app _ | exact hs.set (by omega) (by omega) | exact (hs.set (by omega) (by omega)).app _) (by omega) (by omega) (fun b => ?_)
      simp (disch := first | omega | (simp only [go_sem]; first | done | omega)) only [go_sem]
      refine acond_b (fun c => ?_) (fun c => ?_)
      · simp (disch := first | omega | (simp only [go_sem]; first | done | omega)) only [go_sem]
        refine next_a s zs (j1 + 1 + 1 + 1 + 1 + 1) 3 (by first | exact hs | exact hs.app _ | exact hs.set (by omega) (by omega) | exact (hs.set (by omega) (by omega)).app _) (by omega) (by omega) (fun r hr0 hr1 => ?_)
        simp (disch := first | omega | (simp only [go_sem]; first | done | omega)) only [go_sem]
        have hr' : r = 0 ∨ r = 1 ∨ r = 2 := by omega
        clear hr0 hr1
        rcases hr' with rfl | rfl | rfl
        · simp (disch := first | omega | (simp only [go_sem]; first | done | omega)) only [go_sem]
          refine some_lit s zs (j1 + 1 + 1 + 1 + 1 + 1 + 1) [noS, ⟨#[110, 97]⟩] (by first | exact at0 (by simp) | exact at1 (by simp) | exact at2 (by simp) | exact at3 (by simp) | exact at4 (by simp) | exact at5 (by simp) | exact atG 6 (by simp) rfl | exact atG 7 (by simp) rfl | exact atG 8 (by simp) rfl | exact atG 9 (by simp) rfl | exact atG 10 (by simp) rfl | exact atG 11 (by simp) rfl | exact atG 12 (by simp) rfl | exact atG 13 (by simp) rfl | exact atG 14 (by simp) rfl | exact atG 15 (by simp) rfl | assumption) rfl rfl (by first | exact hs | exact hs.app _ | exact hs.set (by omega) (by omega) | exact (hs.set (by omega) (by omega)).app _) (by omega) (by simp) (by simp) (fun nd2 hn2 => ?_)
          have hns2 : nd2.size ≤ 1000 := by
            have : ∀ x ∈ [noS, (⟨#[110, 97]⟩ : ByteArray)], x.size ≤ 1000 := by decide
            exact this nd2 hn2
          simp (disch := first | omega | (simp only [go_sem]; first | done | omega)) only [go_sem]
          refine odd_a s zs (j1 + 1 + 1 + 1 + 1 + 1 + 1 + 1) 0 50 (by first | exact hs | exact hs.app _ | exact hs.set (by omega) (by omega) | exact (hs.set (by omega) (by omega)).app _) (by omega) (by omega) (by omega) (by omega) (fun r1 j4 g1 g2 g3 => ?_)
          simp (disch := first | omega | (simp only [go_sem]; first | done | omega)) only [go_sem]
          have hHs : HOk (H.set s (strO zs j4)) := HOk.str hH
          exact Next.mk (⟨nd2, r1, u.p⟩, j4) ⟨⟨hns2, h2, by dsimp only; omega, h4, h5⟩, by dsimp only; omega, by dsimp only; omega⟩ (by (try simp (disch := first | omega | (simp only [go_sem]; first | done | omega)) only [go_sem]); (first | refine WkL.eq ?_ ?_ | refine WkL.rest (by assumption) ?_ ?_ ?_ | refine WkL.keepL (by assumption) rfl ?_ ?_ ?_ ?_) <;> first | rfl | (simp; done) | (simp; omega) | (simp only [List.cons.injEq, AV.c.injEq, AC.int.injEq, AC.bool.injEq, AC.str.injEq, and_true, true_and, Int.natCast_add, Int.natCast_one, Int.cast_ofNat_Int]; omega) | (simp [AV.ok, AV.ok1, AC.ok]; done) | (simp [AV.ok, AV.ok1, AC.ok]; omega) | (simp only [List.forall_mem_cons, List.not_mem_nil, false_implies, implies_true, and_true]; (repeat' apply And.intro) <;> first | exact okN_map (fun x => by simp [go_sem, AC.pure]) | exact okN_grO (fun x => by simp [go_sem, AC.pure]) | (simp [AObj.okN, AC.ok]; done) | (simp [AObj.okN, AC.ok]; omega)) | (simp [*]; done) | grind)
        · simp (disch := first | omega | (simp only [go_sem]; first | done | omega)) only [go_sem]
          refine odd_a s zs (j1 + 1 + 1 + 1 + 1 + 1 + 1) 1 9 (by first | exact hs | exact hs.app _ | exact hs.set (by omega) (by omega) | exact (hs.set (by omega) (by omega)).app _) (by omega) (by omega) (by omega) (by omega) (fun r1 j4 g1 g2 g3 => ?_)
          simp (disch := first | omega | (simp only [go_sem]; first | done | omega)) only [go_sem]
          refine some_lit s zs j4 [noS, ⟨#[116, 97]⟩] (by first | exact at0 (by simp) | exact at1 (by simp) | exact at2 (by simp) | exact at3 (by simp) | exact at4 (by simp) | exact at5 (by simp) | exact atG 6 (by simp) rfl | exact atG 7 (by simp) rfl | exact atG 8 (by simp) rfl | exact atG 9 (by simp) rfl | exact atG 10 (by simp) rfl | exact atG 11 (by simp) rfl | exact atG 12 (by simp) rfl | exact atG 13 (by simp) rfl | exact atG 14 (by simp) rfl | exact atG 15 (by simp) rfl | assumption) rfl rfl (by first | exact hs | exact hs.app _ | exact hs.set (by omega) (by omega) | exact (hs.set (by omega) (by omega)).app _) (by omega) (by simp) (by simp) (fun tg2 ht2 => ?_)
          have hts2 : tg2.size ≤ 1000 := by
            have : ∀ x ∈ [noS, (⟨#[116, 97]⟩ : ByteArray)], x.size ≤ 1000 := by decide
            exact this tg2 ht2
          simp (disch := first | omega | (simp only [go_sem]; first | done | omega)) only [go_sem]
          have hHs : HOk (H.set s (strO zs (j4 + 1))) := HOk.str hH
          exact Next.mk (⟨u.nd, u.t, ⟨r1, tg2, u.p.s⟩⟩, j4 + 1) ⟨⟨h1, hts2, h3, by dsimp only; omega, by dsimp only; omega⟩, by dsimp only; omega, by dsimp only; omega⟩ (by (try simp (disch := first | omega | (simp only [go_sem]; first | done | omega)) only [go_sem]); (first | refine WkL.eq ?_ ?_ | refine WkL.rest (by assumption) ?_ ?_ ?_ | refine WkL.keepL (by assumption) rfl ?_ ?_ ?_ ?_) <;> first | rfl | (simp; done) | (simp; omega) | (simp only [List.cons.injEq, AV.c.injEq, AC.int.injEq, AC.bool.injEq, AC.str.injEq, and_true, true_and, Int.natCast_add, Int.natCast_one, Int.cast_ofNat_Int]; omega) | (simp [AV.ok, AV.ok1, AC.ok]; done) | (simp [AV.ok, AV.ok1, AC.ok]; omega) | (simp only [List.forall_mem_cons, List.not_mem_nil, false_implies, implies_true, and_true]; (repeat' apply And.intro) <;> first | exact okN_map (fun x => by simp [go_sem, AC.pure]) | exact okN_grO (fun x => by simp [go_sem, AC.pure]) | (simp [AObj.okN, AC.ok]; done) | (simp [AObj.okN, AC.ok]; omega)) | (simp [*]; done) | grind)
        · simp (disch := first | omega | (simp only [go_sem]; first | done | omega)) only [go_sem]
          refine oneSample_a s zs (j1 + 1 + 1 + 1 + 1 + 1 + 1) (by first | exact hs | exact hs.app _ | exact hs.set (by omega) (by omega) | exact (hs.set (by omega) (by omega)).app _) (by omega) (fun z _ _ _ => ?_)
          simp (disch := first | omega | (simp only [go_sem]; first | done | omega)) only [go_sem]
          exact Next.mk (⟨u.nd, u.t, ⟨u.p.n, u.p.tag, z⟩⟩, j1 + 1 + 1 + 1 + 1 + 1 + 1 + 1 + 1 + 1) ⟨⟨h1, h2, h3, h4, h5⟩, by dsimp only; omega, by dsimp only; omega⟩ (by (try simp (disch := first | omega | (simp only [go_sem]; first | done | omega)) only [go_sem]); (first | refine WkL.eq ?_ ?_ | refine WkL.rest (by assumption) ?_ ?_ ?_ | refine WkL.keepL (by assumption) rfl ?_ ?_ ?_ ?_) <;> first | rfl | (simp; done) | (simp; omega) | (simp only [List.cons.injEq, AV.c.injEq, AC.int.injEq, AC.bool.injEq, AC.str.injEq, and_true, true_and, Int.natCast_add, Int.natCast_one, Int.cast_ofNat_Int]; omega) | (simp [AV.ok, AV.ok1, AC.ok]; done) | (simp [AV.ok, AV.ok1, AC.ok]; omega) | (simp only [List.forall_mem_cons, List.not_mem_nil, false_implies, implies_true, and_true]; (repeat' apply And.intro) <;> first | exact okN_map (fun x => by simp [go_sem, AC.pure]) | exact okN_grO (fun x => by simp [go_sem, AC.pure]) | (simp [AObj.okN, AC.ok]; done) | (simp [AObj.okN, AC.ok]; omega)) | (simp [*]; done) | grind)
      · simp (disch := first | omega | (simp only [go_sem]; first | done | omega)) only [go_sem]
        exact Next.mk (u, j1 + 1 + 1 + 1 + 1 + 1) ⟨⟨h1, h2, h3, h4, h5⟩, by dsimp only; omega, by dsimp only; omega⟩ (by (try simp (disch := first | omega | (simp only [go_sem]; first | done | omega)) only [go_sem]); (first | refine WkL.eq ?_ ?_ | refine WkL.rest (by assumption) ?_ ?_ ?_ | refine WkL.keepL (by assumption) rfl ?_ ?_ ?_ ?_) <;> first | rfl | (simp; done) | (simp; omega) | (simp only [List.cons.injEq, AV.c.injEq, AC.int.injEq, AC.bool.injEq, AC.str.injEq, and_true, true_and, Int.natCast_add, Int.natCast_one, Int.cast_ofNat_Int]; omega) | (simp [AV.ok, AV.ok1, AC.ok]; done) | (simp [AV.ok, AV.ok1, AC.ok]; omega) | (simp only [List.forall_mem_cons, List.not_mem_nil, false_implies, implies_true, and_true]; (repeat' apply And.intro) <;> first | exact okN_map (fun x => by simp [go_sem, AC.pure]) | exact okN_grO (fun x => by simp [go_sem, AC.pure]) | (simp [AObj.okN, AC.ok]; done) | (simp [AObj.okN, AC.ok]; omega)) | (simp [*]; done) | grind)
    obtain ⟨y, j3⟩ := u
    obtain ⟨v1, v2, v3⟩ := hu
    dsimp only at v1 v2 v3 ⊢
    have hll : l.length ≤ 10 := by omega
    refine SWp.of (by kernel_rfl) ?_
    simp (disch := first | omega | (simp only [go_sem]; first | done | omega)) only [go_sem]
    (refine app_gr (enc := encAr) (e := 37) (sz := 7) (bs := 72) (z := [.str ⟨#[]⟩, .int .i64 0, .int .i64 0, .str ⟨#[]⟩, .int .i64 0, .int .i64 0, .int .i64 0]) (l) (y) (by kernel_rfl) (by kernel_rfl) (by kernel_rfl) (by kernel_rfl) (by first | exact at0 (by simp) | exact at1 (by simp) | exact at2 (by simp) | exact at3 (by simp) | exact at4 (by simp) | exact at5 (by simp) | exact atG 6 (by simp) rfl | exact atG 7 (by simp) rfl | exact atG 8 (by simp) rfl | exact atG 9 (by simp) rfl | exact atG 10 (by simp) rfl | exact atG 11 (by simp) rfl | exact atG 12 (by simp) rfl | exact atG 13 (by simp) rfl | exact atG 14 (by simp) rfl | exact atG 15 (by simp) rfl | assumption) (by first | (simp (disch := first | omega | (simp only [go_sem]; first | done | omega)) only [go_sem]; done) | (simp (disch := first | omega | (simp only [go_sem]; first | done | omega)) only [go_sem]; rfl) | (simp (disch := first | omega | (simp only [go_sem]; first | done | omega)) only [go_sem]; simp [go_sem]; done) | (simp (disch := first | omega | (simp only [go_sem]; first | done | omega)) only [go_sem]; simp [*]; done)) rfl (by decide) (by omega) (by omega) (by rfl) ?_)
    simp (disch := first | omega | (simp only [go_sem]; first | done | omega)) only [go_sem]
    refine SWp.of (by kernel_rfl) ?_
    simp (disch := first | omega | (simp only [go_sem]; first | done | omega)) only [go_sem]
    refine Next.mk (k + 1, l ++ [y], tm + d, j3) ?_ ?_
    · refine ⟨⟨by dsimp only; omega, by simp [q2], fun z hz => ?_, ⟨by dsimp only; omega, by dsimp only; omega⟩, by dsimp only; omega, by dsimp only; omega⟩, by dsimp only; omega⟩
      rcases List.mem_append.1 hz with h | h
      · exact q3 z h
      · simp at h; subst h; exact v1
    · ((try simp (disch := first | omega | (simp only [go_sem]; first | done | omega)) only [go_sem]); (first | refine WkL.pick [0] ?_ ?_ rfl ?_ ?_ ?_ ?_ | refine WkL.pick [1] ?_ ?_ rfl ?_ ?_ ?_ ?_ | refine WkL.pick [2] ?_ ?_ rfl ?_ ?_ ?_ ?_ | refine WkL.pick [3] ?_ ?_ rfl ?_ ?_ ?_ ?_ | refine WkL.pick [4] ?_ ?_ rfl ?_ ?_ ?_ ?_ | refine WkL.pick [5] ?_ ?_ rfl ?_ ?_ ?_ ?_ | refine WkL.pick [6] ?_ ?_ rfl ?_ ?_ ?_ ?_ | refine WkL.pick [7] ?_ ?_ rfl ?_ ?_ ?_ ?_ | refine WkL.pick [8] ?_ ?_ rfl ?_ ?_ ?_ ?_ | refine WkL.pick [9] ?_ ?_ rfl ?_ ?_ ?_ ?_ | refine WkL.pick [10] ?_ ?_ rfl ?_ ?_ ?_ ?_ | refine WkL.pick [11] ?_ ?_ rfl ?_ ?_ ?_ ?_ | refine WkL.pick [12] ?_ ?_ rfl ?_ ?_ ?_ ?_ | refine WkL.pick [13] ?_ ?_ rfl ?_ ?_ ?_ ?_ | refine WkL.pick [14] ?_ ?_ rfl ?_ ?_ ?_ ?_ | refine WkL.pick [15] ?_ ?_ rfl ?_ ?_ ?_ ?_) <;> first | assumption | exact HOk.str (by assumption) | (simp; done) | (simp; omega) | (simp [pureO_gr, AObj.pureO, pureL, go_sem, AC.pure]; done) | (simp only [List.all_cons, List.all_nil, Bool.and_true]; exact pureO_gr (pureL_map _ (fun x => by simp [go_sem, AC.pure]))) | ((try simp only [List.map_cons, List.map_nil, av_ren_gr]); simp [AV.ren, AV.ren1, AC.ren, renP, pickS]; first | done | omega) | (simp only [List.forall_mem_cons, List.not_mem_nil, false_implies, implies_true, and_true]; (repeat' apply And.intro) <;> first | trivial | exact grV_ok (by simp) _ | exact okN_grO (fun x => by simp [go_sem, AC.pure]) | exact okN_map (fun x => by simp [go_sem, AC.pure]) | (simp [AV.ok, AV.ok1, AC.ok]; done) | (simp [AV.ok, AV.ok1, AC.ok]; omega) | (simp [AObj.okN, AC.ok]; done)) | (simp [AObj.okN]; done))
  · refine SWp.go (by kernel_rfl) ?_
    simp (disch := first | omega | (simp only [go_sem]; first | done | omega)) only [go_sem, hkl]
    refine SWp.go (by kernel_rfl) ?_
    simp (disch := first | omega | (simp only [go_sem]; first | done | omega)) only [go_sem]
    refine SWp.of (by kernel_rfl) ?_
    simp (disch := first | omega | (simp only [go_sem]; first | done | omega)) only [go_sem]
    have hP : ∀ x ∈ l, arOk x := fun x hx => (q3 x hx).ok
    have hll : l.length ≤ 10 := by omega
    refine sortStable_a cmpOrder l (by first | exact at0 (by simp) | exact at1 (by simp) | exact at2 (by simp) | exact at3 (by simp) | exact at4 (by simp) | exact at5 (by simp) | exact atG 6 (by simp) rfl | exact atG 7 (by simp) rfl | exact atG 8 (by simp) rfl | exact atG 9 (by simp) rfl | exact atG 10 (by simp) rfl | exact atG 11 (by simp) rfl | exact atG 12 (by simp) rfl | exact atG 13 (by simp) rfl | exact atG 14 (by simp) rfl | exact atG 15 (by simp) rfl | assumption) (by omega) hP ?_
    simp (disch := first | omega | (simp only [go_sem]; first | done | omega)) only [go_sem]
    have hil := isortG_len arLt l
    have hmem := isortG_mem arLt l
    rw [grV_lenA _ l (isortG arLt l) hil.symm]
    have hP2 : ∀ x ∈ isortG arLt l, arFine x := fun x hx => q3 x ((hmem x).1 hx)
    generalize isortG arLt l = l2 at *
    refine compactFuncVAr_a (e := fun x y => decide (arrC x y = 0)) (by kernel_rfl) l2 (fun x y H K hx hy hk => arr1_a x y (hP2 x hx).ok (hP2 y hy).ok hk) (by first | exact at0 (by simp) | exact at1 (by simp) | exact at2 (by simp) | exact at3 (by simp) | exact at4 (by simp) | exact at5 (by simp) | exact atG 6 (by simp) rfl | exact atG 7 (by simp) rfl | exact atG 8 (by simp) rfl | exact atG 9 (by simp) rfl | exact atG 10 (by simp) rfl | exact atG 11 (by simp) rfl | exact atG 12 (by simp) rfl | exact atG 13 (by simp) rfl | exact atG 14 (by simp) rfl | exact atG 15 (by simp) rfl | assumption) (by omega) ?_
    simp (disch := first | omega | (simp only [go_sem]; first | done | omega)) only [go_sem]
    have hcl := compactQ_le (fun x y => decide (arrC x y = 0)) l2
    exact Ret.drop (HOk.str hH) (by simp) (by simp [AV.ok, AV.ok1, AC.ok]) (hk _ j1 q6 (by omega) (by omega) (fun x hx => hP2 x (compactQ_sub _ _ x hx)))
end Go.Proofs.YtppmkgaobeccfaaGreatDoor
