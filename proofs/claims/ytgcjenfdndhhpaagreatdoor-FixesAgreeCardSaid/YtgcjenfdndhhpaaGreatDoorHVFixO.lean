/- Overridden: fixes that have no effect any more. Condition: names are not longer than a machine holds. -/
import Derived.Test.YtgcjenfdndhhpaaGreatDoorHVFixG
import Derived.Test.YtgcjenfdndhhpaaGreatDoorHVFixR
namespace Go.Proofs.YtgcjenfdndhhpaaGreatDoor
open Go Go.RowKit
set_option maxRecDepth 100000
set_option linter.all false
set_option maxHeartbeats 1000000
variable {H : Hp} {K : AV → Hp → Prop}
def tcF (x : Fix) : Int := if x.kind = 1 then x.s.t else x.t
theorem touchP_a (x : Fix) (hk : K (.c (.int .i64 (tcF x))) H) : ACalls Tryz.prog 133 [.agg (encF x)] H K := by
  unfold tcF at hk
  by_cases k1 : x.kind = 1
  · rw [if_pos k1] at hk
    refine acalls Tryz.func133 rfl (by kernel_rfl) (by simp (disch := first | omega | (simp only [go_sem]; first | done | omega)) only [go_sem]) (fun hH => ?_)
    simp (disch := first | omega | (simp only [go_sem]; first | done | omega)) only [go_sem, k1]
    exact Ret.drop hH (Nat.le_refl _) trivial hk
  · rw [if_neg k1] at hk
    refine acalls Tryz.func133 rfl (by kernel_rfl) (by simp (disch := first | omega | (simp only [go_sem]; first | done | omega)) only [go_sem]) (fun hH => ?_)
    simp (disch := first | omega | (simp only [go_sem]; first | done | omega)) only [go_sem, k1]
    exact Ret.drop hH (Nat.le_refl _) trivial hk
/-- what a fix behind does to one: 0 nothing, 1 it takes all effect, 2 it keeps it -/
def gn1 (x y : Fix) : Int := if x.kind ≠ 3 then (if y.kind ≠ 3 ∧ tcF y = tcF x then 1 else 0) else if y.kind = 1 ∧ (x.w1 ≤ y.s.t ∧ y.s.t < x.w2) then 2 else if y.kind = 3 ∧ y.w1 ≤ x.w1 ∧ x.w2 ≤ y.w2 ∧ x.q ≤ y.q then 1 else 0
def gnB (x : Fix) : List Fix → Bool
  | [] => false
  | y :: t => if gn1 x y = 1 then true else if gn1 x y = 2 then false else gnB x t
theorem gnB_next {x : Fix} {l : List Fix} {k : Nat} (h : k < l.length) : gnB x (l.drop k) = if gn1 x l[k] = 1 then true else if gn1 x l[k] = 2 then false else gnB x (l.drop (k + 1)) := by
  rw [List.drop_eq_getElem_cons h, gnB]
theorem gone_a (x : Fix) (l : List Fix) (hl : l.length ≤ 1000000) (hk : K (.c (.bool (gnB x l))) H) : ACalls Tryz.prog 74 [.agg (encF x), .c (.lst 11 (l.map encF))] H K := by
  refine acalls Tryz.func74 rfl (by kernel_rfl) (by simp (disch := first | omega | (simp only [go_sem]; first | done | omega)) only [go_sem]) (fun hH => ?_)
  simp (disch := first | omega | (simp only [go_sem]; first | done | omega)) only [go_sem]
  refine AWp.loop (H.length + 1) [2, 7, 8] [9] (fun (k : Nat) => k ≤ l.length ∧ gnB x (l.drop k) = gnB x l) (fun (k : Nat) => [(9, (.c (.int .i64 k)))]) (fun (k : Nat) => H ++ [.row 67 11 [encF x] true]) (fun (k : Nat) => l.length - k) (by kernel_rfl) (fun _ => rfl) (by kernel_rfl) (by first | (simp; done) | omega) (by first | (simp; done) | (simp; omega) | omega) (by (try simp only [List.forall_mem_cons, List.not_mem_nil, false_implies, implies_true, and_true]); (try simp (disch := first | omega | (simp only [go_sem]; first | done | omega)) only [go_sem]); all_goals first | trivial | (simp [AV.ok, AV.ok1, AC.ok]; done) | (simp [AV.ok, AV.ok1, AC.ok]; omega) | (simp [AV.ok, AV.ok1, AC.ok]; assumption) | ((repeat' apply And.intro) <;> first | trivial | (simp [AV.ok, AV.ok1, AC.ok]; done) | (simp [AV.ok, AV.ok1, AC.ok]; omega) | (simp [AV.ok, AV.ok1, AC.ok]; assumption) | (refine grV_ok ?_ _; first | (simp; done) | (simp; omega) | omega))) ?_ (fun k q _ _ => ?_)
  · refine Next.mk 0 ⟨Nat.zero_le _, rfl⟩ ?_
    (try simp (disch := first | omega | (simp only [go_sem]; first | done | omega)) only [go_sem]); (first | refine WkL.eq ?_ ?_ | refine WkL.rest (by assumption) ?_ ?_ ?_ | refine WkL.keepL (by assumption) rfl ?_ ?_ ?_ ?_) <;> first | rfl | (simp; done) | (simp; omega) | (simp only [List.cons.injEq, AV.c.injEq, AC.int.injEq, AC.bool.injEq, AC.str.injEq, and_true, true_and, Int.natCast_add, Int.natCast_one, Int.cast_ofNat_Int]; omega) | (simp [AV.ok, AV.ok1, AC.ok]; done) | (simp [AV.ok, AV.ok1, AC.ok]; omega) | (simp only [List.forall_mem_cons, List.not_mem_nil, false_implies, implies_true, and_true]; (repeat' apply And.intro) <;> first | exact okN_map (fun x => by simp [go_sem, AC.pure]) | exact okN_grO (fun x => by simp [go_sem, AC.pure]) | (simp [AObj.okN, AC.ok]; done) | (simp [AObj.okN, AC.ok]; omega)) | (simp [*]; done) | grind
  obtain ⟨q1, q2⟩ := q
  by_cases hlt : k < l.length
  · obtain ⟨y, hy⟩ : ∃ y, y = l[k] := ⟨_, rfl⟩
    have hnx := gnB_next (x := x) hlt
    rw [← hy, q2] at hnx
    have e0 : gn1 x y = 0 → gnB x (l.drop (k + 1)) = gnB x l := fun h => by rw [hnx, h]; rfl
    have e1 : gn1 x y = 1 → K (.c (.bool true)) H := fun h => by rw [hnx, h] at hk; exact hk
    have e2 : gn1 x y = 2 → K (.c (.bool false)) H := fun h => by rw [hnx, h] at hk; exact hk
    clear hnx
    by_cases x3 : x.kind = 3
    · have eg : gn1 x y = if y.kind = 1 ∧ (x.w1 ≤ y.s.t ∧ y.s.t < x.w2) then 2 else if y.kind = 3 ∧ y.w1 ≤ x.w1 ∧ x.w2 ≤ y.w2 ∧ x.q ≤ y.q then 1 else 0 := by unfold gn1; rw [if_neg (by simpa using x3)]
      rw [eg] at e0 e1 e2
      simp (disch := first | omega | (simp only [go_sem]; first | done | omega)) only [go_sem, hlt, ← hy, x3]
      repeat' (first | ((first | refine acond_d ?_ ?_ | refine acond_b ?_ ?_ | refine ag_d ?_ ?_ | refine ag_n ?_ ?_ | refine ag_bt ?_ ?_ | refine ag_bf ?_ ?_) <;> intro c <;> try simp (disch := first | omega | (simp only [go_sem]; first | done | omega)) only [go_sem, c]) | ((first | refine w_draw (by kernel_rfl) (by decide +kernel) ?_ | refine inW2_a _ _ _ ?_) <;> try simp (disch := first | omega | (simp only [go_sem]; first | done | omega)) only [go_sem]))
      all_goals first
        | exact Ret.drop hH (Nat.le_refl _) trivial (e1 (by grind))
        | exact Ret.drop hH (Nat.le_refl _) trivial (e2 (by grind))
        | exact Next.mk (k + 1) ⟨⟨by omega, e0 (by grind)⟩, by omega⟩ (by (try simp (disch := first | omega | (simp only [go_sem]; first | done | omega)) only [go_sem]); (first | refine WkL.eq ?_ ?_ | refine WkL.rest (by assumption) ?_ ?_ ?_ | refine WkL.keepL (by assumption) rfl ?_ ?_ ?_ ?_) <;> first | rfl | (simp; done) | (simp; omega) | (simp only [List.cons.injEq, AV.c.injEq, AC.int.injEq, AC.bool.injEq, AC.str.injEq, and_true, true_and, Int.natCast_add, Int.natCast_one, Int.cast_ofNat_Int]; omega) | (simp [AV.ok, AV.ok1, AC.ok]; done) | (simp [AV.ok, AV.ok1, AC.ok]; omega) | (simp only [List.forall_mem_cons, List.not_mem_nil, false_implies, implies_true, and_true]; (repeat' apply And.intro) <;> first | exact okN_map (fun x => by simp [go_sem, AC.pure]) | exact okN_grO (fun x => by simp [go_sem, AC.pure]) | (simp [AObj.okN, AC.ok]; done) | (simp [AObj.okN, AC.ok]; omega)) | (simp [*]; done) | grind)
    · have eg : gn1 x y = if y.kind ≠ 3 ∧ tcF y = tcF x then 1 else 0 := by unfold gn1; rw [if_pos x3]
      rw [eg] at e0 e1 e2
      simp (disch := first | omega | (simp only [go_sem]; first | done | omega)) only [go_sem, hlt, ← hy, x3]
      repeat' (first | ((first | refine acond_d ?_ ?_ | refine acond_b ?_ ?_ | refine ag_d ?_ ?_ | refine ag_n ?_ ?_ | refine ag_bt ?_ ?_ | refine ag_bf ?_ ?_ | refine agt_d ?_ ?_ | refine agt_n ?_ ?_ | refine agt_bt ?_ ?_ | refine agt_bf ?_ ?_) <;> intro c <;> try simp (disch := first | omega | (simp only [go_sem]; first | done | omega)) only [go_sem, c]) | ((first | refine w_draw (by kernel_rfl) (by decide +kernel) ?_ | refine touchP_a y ?_ | refine touchP_a x ?_ | refine w_tree (.one 0 (.one 1 (.one 2 (.one 3 (.one 4 (.two 5 (.one 6 (.one 7 (.one 8 (.one 9 .done)))) 6 (.one 5 (.one 7 (.one 8 (.one 9 .done)))))))))) (by kernel_rfl) (by decide +kernel) ?_) <;> try simp (disch := first | omega | (simp only [go_sem]; first | done | omega)) only [go_sem]) | (refine And.intro ?_ ?_ <;> try simp (disch := first | omega | (simp only [go_sem]; first | done | omega)) only [go_sem]))
      all_goals first
        | exact Ret.drop hH (Nat.le_refl _) trivial (e1 (by grind))
        | exact Next.mk (k + 1) ⟨⟨by omega, e0 (by grind)⟩, by omega⟩ (by (try simp (disch := first | omega | (simp only [go_sem]; first | done | omega)) only [go_sem]); (first | refine WkL.eq ?_ ?_ | refine WkL.rest (by assumption) ?_ ?_ ?_ | refine WkL.keepL (by assumption) rfl ?_ ?_ ?_ ?_) <;> first | rfl | (simp; done) | (simp; omega) | (simp only [List.cons.injEq, AV.c.injEq, AC.int.injEq, AC.bool.injEq, AC.str.injEq, and_true, true_and, Int.natCast_add, Int.natCast_one, Int.cast_ofNat_Int]; omega) | (simp [AV.ok, AV.ok1, AC.ok]; done) | (simp [AV.ok, AV.ok1, AC.ok]; omega) | (simp only [List.forall_mem_cons, List.not_mem_nil, false_implies, implies_true, and_true]; (repeat' apply And.intro) <;> first | exact okN_map (fun x => by simp [go_sem, AC.pure]) | exact okN_grO (fun x => by simp [go_sem, AC.pure]) | (simp [AObj.okN, AC.ok]; done) | (simp [AObj.okN, AC.ok]; omega)) | (simp [*]; done) | grind)
  · rw [List.drop_eq_nil_of_le (by omega)] at q2
    have e : gnB x l = false := q2.symm
    rw [e] at hk
    simp (disch := first | omega | (simp only [go_sem]; first | done | omega)) only [go_sem, hlt]
    exact Ret.drop hH (Nat.le_refl _) trivial hk
/-- fixes up to a moment, of a list that rises: those at the end are left out -/
def trF (a : Int) : Nat → List Fix → List Fix
  | 0, l => l.take 0
  | n + 1, l => match l[n]? with
    | some x => if a < x.made then trF a n l else l.take (n + 1)
    | none => l.take (n + 1)
def ovF (f : List Fix) (k : Nat) : List Int := ((List.range k).filter fun i => match f[i]? with | some x => gnB x (f.drop (i + 1)) | none => false).map fun (i : Nat) => (i : Int)
theorem ovF_next {f : List Fix} {k : Nat} (h : k < f.length) : ovF f (k + 1) = ovF f k ++ (if gnB f[k] (f.drop (k + 1)) = true then [(k : Int)] else []) := by
  unfold ovF
  rw [List.range_succ, List.filter_append, List.map_append]
  congr 1
  cases hg : gnB f[k] (f.drop (k + 1)) <;> simp [h, hg]
theorem ovF_len (f : List Fix) (k : Nat) : (ovF f k).length ≤ k := by
  unfold ovF
  rw [List.length_map]
  exact Nat.le_trans (List.length_filter_le _ _) (by simp)
def ovRes (l : List Fix) (a : Int) : List Int × Int := if fxF l ≠ 0 then ([], fxF l) else if ¬ (0 ≤ a ∧ a ≤ 345686399999) then ([], 1) else (ovF (trF a l.length l) (trF a l.length l).length, 0)
theorem trF_le (a : Int) (l : List Fix) : ∀ n, (trF a n l).length ≤ l.length
  | 0 => by simp [trF]
  | n + 1 => by
    unfold trF
    split
    · split
      · exact trF_le a l n
      · rw [List.length_take]
        omega
    · rw [List.length_take]
      omega
theorem overridden_a (l : List Fix) (a : Int) (hsz : ∀ x ∈ l, x.by_.size ≤ 1099511627776) (hl : l.length ≤ 100000) (hk : K (.tup [.c (.lst 1 ((ovRes l a).1.map encI)), (.c (.int .i64 ((ovRes l a).2)))]) H) : ACalls Tryz.prog 31 [.c (.lst 11 (l.map encF)), (.c (.int .i64 a))] H K := by
  unfold ovRes at hk
  refine acalls Tryz.func31 rfl (by kernel_rfl) (by simp (disch := first | omega | (simp only [go_sem]; first | done | omega)) only [go_sem]) (fun hH => ?_)
  simp (disch := first | omega | (simp only [go_sem]; first | done | omega)) only [go_sem]
  refine checkFixes_a l hsz (by omega) ?_
  by_cases h0 : fxF l = 0
  rotate_left
  · rw [if_pos h0] at hk
    simp (disch := first | omega | (simp only [go_sem]; first | done | omega)) only [go_sem, h0]
    exact Ret.nilS (Nat.le_refl _) rfl hk
  rw [if_neg (by simpa using h0)] at hk
  simp (disch := first | omega | (simp only [go_sem]; first | done | omega)) only [go_sem, h0]
  refine moment_a _ _ _ ?_
  by_cases h1 : 0 ≤ a ∧ a ≤ 345686399999
  rotate_left
  · rw [if_pos h1] at hk
    simp (disch := first | omega | (simp only [go_sem]; first | done | omega)) only [go_sem, h1]
    exact Ret.nilS (Nat.le_refl _) rfl hk
  rw [if_neg (by simpa using h1)] at hk
  simp (disch := first | omega | (simp only [go_sem]; first | done | omega)) only [go_sem, h1]
  refine AWp.loop (H.length) [1] [0] (fun (n : Nat) => n ≤ l.length ∧ trF a n l = trF a l.length l) (fun (n : Nat) => [(0, .c (.lst 11 ((l.take n).map encF)))]) (fun (n : Nat) => H) (fun (n : Nat) => n) (by kernel_rfl) (fun _ => rfl) (by kernel_rfl) (by first | (simp; done) | omega) (by first | (simp; done) | (simp; omega) | omega) (by (try simp only [List.forall_mem_cons, List.not_mem_nil, false_implies, implies_true, and_true]); (try simp (disch := first | omega | (simp only [go_sem]; first | done | omega)) only [go_sem]); all_goals first | trivial | (simp [AV.ok, AV.ok1, AC.ok]; done) | (simp [AV.ok, AV.ok1, AC.ok]; omega) | (simp [AV.ok, AV.ok1, AC.ok]; assumption) | ((repeat' apply And.intro) <;> first | trivial | (simp [AV.ok, AV.ok1, AC.ok]; done) | (simp [AV.ok, AV.ok1, AC.ok]; omega) | (simp [AV.ok, AV.ok1, AC.ok]; assumption) | (refine grV_ok ?_ _; first | (simp; done) | (simp; omega) | omega))) ?_ (fun n q _ _ => ?_)
  · refine Next.mk l.length ⟨Nat.le_refl _, rfl⟩ ?_
    rw [List.take_length]
    (try simp (disch := first | omega | (simp only [go_sem]; first | done | omega)) only [go_sem]); (first | refine WkL.eq ?_ ?_ | refine WkL.rest (by assumption) ?_ ?_ ?_ | refine WkL.keepL (by assumption) rfl ?_ ?_ ?_ ?_) <;> first | rfl | (simp; done) | (simp; omega) | (simp only [List.cons.injEq, AV.c.injEq, AC.int.injEq, AC.bool.injEq, AC.str.injEq, and_true, true_and, Int.natCast_add, Int.natCast_one, Int.cast_ofNat_Int]; omega) | (simp [AV.ok, AV.ok1, AC.ok]; done) | (simp [AV.ok, AV.ok1, AC.ok]; omega) | (simp only [List.forall_mem_cons, List.not_mem_nil, false_implies, implies_true, and_true]; (repeat' apply And.intro) <;> first | exact okN_map (fun x => by simp [go_sem, AC.pure]) | exact okN_grO (fun x => by simp [go_sem, AC.pure]) | (simp [AObj.okN, AC.ok]; done) | (simp [AObj.okN, AC.ok]; omega)) | (simp [*]; done) | grind
  obtain ⟨q1, q2⟩ := q
  obtain ⟨T, hT⟩ : ∃ T, T = l.take n := ⟨_, rfl⟩
  have hTl : T.length = n := by rw [hT, List.length_take]; omega
  by_cases hn : 0 < n
  · obtain ⟨m, rfl⟩ : ∃ m, n = m + 1 := ⟨n - 1, by omega⟩
    have hml : m < l.length := by omega
    obtain ⟨y, hy⟩ : ∃ y, y = l[m] := ⟨_, rfl⟩
    have hlm : l[m]? = some y := by rw [List.getElem?_eq_getElem hml, hy]
    have htm : T.take m = l.take m := by rw [hT, List.take_take, Nat.min_eq_left (by omega)]
    have hTy : y = T[m] := by simp [hT, hy]
    have hpos : (0 : Int) < T.length := by omega
    have hix : ((T.length : Int) - 1).toNat = m := by omega
    have hstep : trF a (m + 1) l = if a < y.made then trF a m l else l.take (m + 1) := by rw [trF, hlm]
    rw [q2, ← hT] at hstep
    rw [← hT]
    by_cases hm : a < y.made
    · rw [if_pos hm] at hstep
      simp (disch := first | omega | (simp only [go_sem]; first | done | omega)) only [go_sem, hpos, hix, ← hTy, hm]
      refine Next.mk m ⟨⟨by omega, hstep.symm⟩, by omega⟩ ?_
      rw [← htm, List.map_take]
      (try simp (disch := first | omega | (simp only [go_sem]; first | done | omega)) only [go_sem]); (first | refine WkL.eq ?_ ?_ | refine WkL.rest (by assumption) ?_ ?_ ?_ | refine WkL.keepL (by assumption) rfl ?_ ?_ ?_ ?_) <;> first | rfl | (simp; done) | (simp; omega) | (simp only [List.cons.injEq, AV.c.injEq, AC.int.injEq, AC.bool.injEq, AC.str.injEq, and_true, true_and, Int.natCast_add, Int.natCast_one, Int.cast_ofNat_Int]; omega) | (simp [AV.ok, AV.ok1, AC.ok]; done) | (simp [AV.ok, AV.ok1, AC.ok]; omega) | (simp only [List.forall_mem_cons, List.not_mem_nil, false_implies, implies_true, and_true]; (repeat' apply And.intro) <;> first | exact okN_map (fun x => by simp [go_sem, AC.pure]) | exact okN_grO (fun x => by simp [go_sem, AC.pure]) | (simp [AObj.okN, AC.ok]; done) | (simp [AObj.okN, AC.ok]; omega)) | (simp [*]; done) | grind
    · rw [if_neg hm] at hstep
      have hTF := hstep
      have hTb : T.length ≤ 100000 := by omega
      clear hstep q2 htm
      simp (disch := first | omega | (simp only [go_sem]; first | done | omega)) only [go_sem, hpos, hix, ← hTy, hm]
      clear hpos hix hTy hT hTl hn hm
      rw [hTF] at hk
      clear hTF
      refine AWp.loop (H.length) [0, 37, 38] [39, 7] (fun (k : Nat) => k ≤ T.length) (fun (k : Nat) => [(39, (.c (.int .i64 k))), (7, .c (grV H.length (ovF T k)))]) (fun (k : Nat) => H ++ [grO 3 1 ((ovF T k).map encI)]) (fun (k : Nat) => T.length - k) (by kernel_rfl) (fun _ => rfl) (by kernel_rfl) (by first | (simp; done) | omega) (by first | (simp; done) | (simp; omega) | omega) (by (try simp only [List.forall_mem_cons, List.not_mem_nil, false_implies, implies_true, and_true]); (try simp (disch := first | omega | (simp only [go_sem]; first | done | omega)) only [go_sem]); all_goals first | trivial | (simp [AV.ok, AV.ok1, AC.ok]; done) | (simp [AV.ok, AV.ok1, AC.ok]; omega) | (simp [AV.ok, AV.ok1, AC.ok]; assumption) | ((repeat' apply And.intro) <;> first | trivial | (simp [AV.ok, AV.ok1, AC.ok]; done) | (simp [AV.ok, AV.ok1, AC.ok]; omega) | (simp [AV.ok, AV.ok1, AC.ok]; assumption) | (refine grV_ok ?_ _; first | (simp; done) | (simp; omega) | omega))) ?_ (fun k q1 _ _ => ?_)
      · refine Next.mk 0 (Nat.zero_le _) ?_
        exact WkL.pad (by omega)
      by_cases hlt : k < T.length
      · obtain ⟨x, hx⟩ : ∃ x, x = T[k] := ⟨_, rfl⟩
        have hnx := ovF_next hlt
        have hol := ovF_len T k
        rw [← hx] at hnx
        have hdl : (T.drop (k + 1)).length ≤ 1000000 := by rw [List.length_drop]; omega
        have hsl : List.take (T.length - ((k : Int) + 1).toNat) (List.drop ((k : Int) + 1).toNat (T.map encF)) = (T.drop (k + 1)).map encF := by
          have e : ((k : Int) + 1).toNat = k + 1 := by omega
          rw [e, List.take_of_length_le (by rw [List.length_drop, List.length_map]; omega), List.map_drop]
        generalize ovF T k = L at *
        cases hg : gnB x (T.drop (k + 1)) with
        | true =>
          rw [hg, if_pos rfl] at hnx
          simp (disch := first | omega | (simp only [go_sem]; first | done | omega)) only [go_sem, hlt, ← hx]
          repeat' (first | ((first | refine acond_d ?_ ?_ | refine acond_b ?_ ?_ | refine ag_d ?_ ?_ | refine ag_n ?_ ?_ | refine ag_bt ?_ ?_ | refine ag_bf ?_ ?_) <;> intro c <;> try simp (disch := first | omega | (simp only [go_sem]; first | done | omega)) only [go_sem, c, hlt, hsl, hg]) | ((first | refine w_draw (by kernel_rfl) (by decide +kernel) ?_ | refine gone_a x (T.drop (k + 1)) hdl ?_) <;> try simp (disch := first | omega | (simp only [go_sem]; first | done | omega)) only [go_sem, hlt, hsl, hg]))
          refine appI L (k : Int) _ hnx (by first | ((repeat first | exact at0 (by simp) | refine atS ?_); done) | assumption) (by first | ((repeat first | exact at0 (by simp) | refine atS ?_); done) | assumption) (by omega) ?_
          simp (disch := first | omega | (simp only [go_sem]; first | done | omega)) only [go_sem]
          refine Next.mk (k + 1) ⟨by omega, by omega⟩ ?_
          ((try simp (disch := first | omega | (simp only [go_sem]; first | done | omega)) only [go_sem]); (first | refine WkL.pick [0] ?_ ?_ rfl ?_ ?_ ?_ ?_ | refine WkL.pick [1] ?_ ?_ rfl ?_ ?_ ?_ ?_ | refine WkL.pick [2] ?_ ?_ rfl ?_ ?_ ?_ ?_ | refine WkL.pick [3] ?_ ?_ rfl ?_ ?_ ?_ ?_ | refine WkL.pick [4] ?_ ?_ rfl ?_ ?_ ?_ ?_ | refine WkL.pick [5] ?_ ?_ rfl ?_ ?_ ?_ ?_ | refine WkL.pick [6] ?_ ?_ rfl ?_ ?_ ?_ ?_ | refine WkL.pick [7] ?_ ?_ rfl ?_ ?_ ?_ ?_ | refine WkL.pick [8] ?_ ?_ rfl ?_ ?_ ?_ ?_ | refine WkL.pick [9] ?_ ?_ rfl ?_ ?_ ?_ ?_ | refine WkL.pick [10] ?_ ?_ rfl ?_ ?_ ?_ ?_ | refine WkL.pick [11] ?_ ?_ rfl ?_ ?_ ?_ ?_ | refine WkL.pick [12] ?_ ?_ rfl ?_ ?_ ?_ ?_ | refine WkL.pick [13] ?_ ?_ rfl ?_ ?_ ?_ ?_ | refine WkL.pick [14] ?_ ?_ rfl ?_ ?_ ?_ ?_ | refine WkL.pick [15] ?_ ?_ rfl ?_ ?_ ?_ ?_) <;> first | assumption | exact HOk.str (by assumption) | (simp; done) | (simp; omega) | (simp [pureO_gr, AObj.pureO, pureL, go_sem, AC.pure]; done) | (simp only [List.all_cons, List.all_nil, Bool.and_true]; exact pureO_gr (pureL_map _ (fun x => by simp [go_sem, AC.pure]))) | ((try simp only [List.map_cons, List.map_nil, av_ren_gr]); simp [AV.ren, AV.ren1, AC.ren, renP, pickS]; first | done | omega) | (simp only [List.forall_mem_cons, List.not_mem_nil, false_implies, implies_true, and_true]; (repeat' apply And.intro) <;> first | trivial | exact grV_ok (by simp) _ | exact okN_grO (fun x => by simp [go_sem, AC.pure]) | exact okN_map (fun x => by simp [go_sem, AC.pure]) | (simp [AV.ok, AV.ok1, AC.ok]; done) | (simp [AV.ok, AV.ok1, AC.ok]; omega) | (simp [AObj.okN, AC.ok]; done)) | (simp [AObj.okN]; done))
        | false =>
          rw [hg, if_neg (by simp), List.append_nil] at hnx
          simp (disch := first | omega | (simp only [go_sem]; first | done | omega)) only [go_sem, hlt, ← hx]
          repeat' (first | ((first | refine acond_d ?_ ?_ | refine acond_b ?_ ?_ | refine ag_d ?_ ?_ | refine ag_n ?_ ?_ | refine ag_bt ?_ ?_ | refine ag_bf ?_ ?_) <;> intro c <;> try simp (disch := first | omega | (simp only [go_sem]; first | done | omega)) only [go_sem, c, hlt, hsl, hg]) | ((first | refine w_draw (by kernel_rfl) (by decide +kernel) ?_ | refine gone_a x (T.drop (k + 1)) hdl ?_) <;> try simp (disch := first | omega | (simp only [go_sem]; first | done | omega)) only [go_sem, hlt, hsl, hg]))
          refine Next.mk (k + 1) ⟨by omega, by omega⟩ ?_
          rw [hnx]
          ((try simp (disch := first | omega | (simp only [go_sem]; first | done | omega)) only [go_sem]); (first | refine WkL.pick [0] ?_ ?_ rfl ?_ ?_ ?_ ?_ | refine WkL.pick [1] ?_ ?_ rfl ?_ ?_ ?_ ?_ | refine WkL.pick [2] ?_ ?_ rfl ?_ ?_ ?_ ?_ | refine WkL.pick [3] ?_ ?_ rfl ?_ ?_ ?_ ?_ | refine WkL.pick [4] ?_ ?_ rfl ?_ ?_ ?_ ?_ | refine WkL.pick [5] ?_ ?_ rfl ?_ ?_ ?_ ?_ | refine WkL.pick [6] ?_ ?_ rfl ?_ ?_ ?_ ?_ | refine WkL.pick [7] ?_ ?_ rfl ?_ ?_ ?_ ?_ | refine WkL.pick [8] ?_ ?_ rfl ?_ ?_ ?_ ?_ | refine WkL.pick [9] ?_ ?_ rfl ?_ ?_ ?_ ?_ | refine WkL.pick [10] ?_ ?_ rfl ?_ ?_ ?_ ?_ | refine WkL.pick [11] ?_ ?_ rfl ?_ ?_ ?_ ?_ | refine WkL.pick [12] ?_ ?_ rfl ?_ ?_ ?_ ?_ | refine WkL.pick [13] ?_ ?_ rfl ?_ ?_ ?_ ?_ | refine WkL.pick [14] ?_ ?_ rfl ?_ ?_ ?_ ?_ | refine WkL.pick [15] ?_ ?_ rfl ?_ ?_ ?_ ?_) <;> first | assumption | exact HOk.str (by assumption) | (simp; done) | (simp; omega) | (simp [pureO_gr, AObj.pureO, pureL, go_sem, AC.pure]; done) | (simp only [List.all_cons, List.all_nil, Bool.and_true]; exact pureO_gr (pureL_map _ (fun x => by simp [go_sem, AC.pure]))) | ((try simp only [List.map_cons, List.map_nil, av_ren_gr]); simp [AV.ren, AV.ren1, AC.ren, renP, pickS]; first | done | omega) | (simp only [List.forall_mem_cons, List.not_mem_nil, false_implies, implies_true, and_true]; (repeat' apply And.intro) <;> first | trivial | exact grV_ok (by simp) _ | exact okN_grO (fun x => by simp [go_sem, AC.pure]) | exact okN_map (fun x => by simp [go_sem, AC.pure]) | (simp [AV.ok, AV.ok1, AC.ok]; done) | (simp [AV.ok, AV.ok1, AC.ok]; omega) | (simp [AObj.okN, AC.ok]; done)) | (simp [AObj.okN]; done))
      · have hkl : k = T.length := by omega
        subst hkl
        simp (disch := first | omega | (simp only [go_sem]; first | done | omega)) only [go_sem]
        exact Ret.frzGrT 0 hH (Nat.le_refl _) rfl (pureL_map _ (fun x => by simp [go_sem, AC.pure])) rfl (map_grV _ _ _).symm hk
  · have hn0 : n = 0 := by omega
    subst hn0
    have hTF : trF a l.length l = T := by rw [← q2, hT]; rfl
    have hpos : ¬ (0 : Int) < T.length := by omega
    rw [← hT]
    clear q2
    simp (disch := first | omega | (simp only [go_sem]; first | done | omega)) only [go_sem, hpos]
    have hTb : T.length ≤ 100000 := by omega
    clear hpos hT hTl hn
    rw [hTF] at hk
    clear hTF
    refine AWp.loop (H.length) [0, 37, 38] [39, 7] (fun (k : Nat) => k ≤ T.length) (fun (k : Nat) => [(39, (.c (.int .i64 k))), (7, .c (grV H.length (ovF T k)))]) (fun (k : Nat) => H ++ [grO 3 1 ((ovF T k).map encI)]) (fun (k : Nat) => T.length - k) (by kernel_rfl) (fun _ => rfl) (by kernel_rfl) (by first | (simp; done) | omega) (by first | (simp; done) | (simp; omega) | omega) (by (try simp only [List.forall_mem_cons, List.not_mem_nil, false_implies, implies_true, and_true]); (try simp (disch := first | omega | (simp only [go_sem]; first | done | omega)) only [go_sem]); all_goals first | trivial | (simp [AV.ok, AV.ok1, AC.ok]; done) | (simp [AV.ok, AV.ok1, AC.ok]; omega) | (simp [AV.ok, AV.ok1, AC.ok]; assumption) | ((repeat' apply And.intro) <;> first | trivial | (simp [AV.ok, AV.ok1, AC.ok]; done) | (simp [AV.ok, AV.ok1, AC.ok]; omega) | (simp [AV.ok, AV.ok1, AC.ok]; assumption) | (refine grV_ok ?_ _; first | (simp; done) | (simp; omega) | omega))) ?_ (fun k q1 _ _ => ?_)
    · refine Next.mk 0 (Nat.zero_le _) ?_
      exact WkL.pad (by omega)
    by_cases hlt : k < T.length
    · obtain ⟨x, hx⟩ : ∃ x, x = T[k] := ⟨_, rfl⟩
      have hnx := ovF_next hlt
      have hol := ovF_len T k
      rw [← hx] at hnx
      have hdl : (T.drop (k + 1)).length ≤ 1000000 := by rw [List.length_drop]; omega
      have hsl : List.take (T.length - ((k : Int) + 1).toNat) (List.drop ((k : Int) + 1).toNat (T.map encF)) = (T.drop (k + 1)).map encF := by
        have e : ((k : Int) + 1).toNat = k + 1 := by omega
        rw [e, List.take_of_length_le (by rw [List.length_drop, List.length_map]; omega), List.map_drop]
      generalize ovF T k = L at *
      cases hg : gnB x (T.drop (k + 1)) with
      | true =>
        rw [hg, if_pos rfl] at hnx
        simp (disch := first | omega | (simp only [go_sem]; first | done | omega)) only [go_sem, hlt, ← hx]
        repeat' (first | ((first | refine acond_d ?_ ?_ | refine acond_b ?_ ?_ | refine ag_d ?_ ?_ | refine ag_n ?_ ?_ | refine ag_bt ?_ ?_ | refine ag_bf ?_ ?_) <;> intro c <;> try simp (disch := first | omega | (simp only [go_sem]; first | done | omega)) only [go_sem, c, hlt, hsl, hg]) | ((first | refine w_draw (by kernel_rfl) (by decide +kernel) ?_ | refine gone_a x (T.drop (k + 1)) hdl ?_) <;> try simp (disch := first | omega | (simp only [go_sem]; first | done | omega)) only [go_sem, hlt, hsl, hg]))
        refine appI L (k : Int) _ hnx (by first | ((repeat first | exact at0 (by simp) | refine atS ?_); done) | assumption) (by first | ((repeat first | exact at0 (by simp) | refine atS ?_); done) | assumption) (by omega) ?_
        simp (disch := first | omega | (simp only [go_sem]; first | done | omega)) only [go_sem]
        refine Next.mk (k + 1) ⟨by omega, by omega⟩ ?_
        ((try simp (disch := first | omega | (simp only [go_sem]; first | done | omega)) only [go_sem]); (first | refine WkL.pick [0] ?_ ?_ rfl ?_ ?_ ?_ ?_ | refine WkL.pick [1] ?_ ?_ rfl ?_ ?_ ?_ ?_ | refine WkL.pick [2] ?_ ?_ rfl ?_ ?_ ?_ ?_ | refine WkL.pick [3] ?_ ?_ rfl ?_ ?_ ?_ ?_ | refine WkL.pick [4] ?_ ?_ rfl ?_ ?_ ?_ ?_ | refine WkL.pick [5] ?_ ?_ rfl ?_ ?_ ?_ ?_ | refine WkL.pick [6] ?_ ?_ rfl ?_ ?_ ?_ ?_ | refine WkL.pick [7] ?_ ?_ rfl ?_ ?_ ?_ ?_ | refine WkL.pick [8] ?_ ?_ rfl ?_ ?_ ?_ ?_ | refine WkL.pick [9] ?_ ?_ rfl ?_ ?_ ?_ ?_ | refine WkL.pick [10] ?_ ?_ rfl ?_ ?_ ?_ ?_ | refine WkL.pick [11] ?_ ?_ rfl ?_ ?_ ?_ ?_ | refine WkL.pick [12] ?_ ?_ rfl ?_ ?_ ?_ ?_ | refine WkL.pick [13] ?_ ?_ rfl ?_ ?_ ?_ ?_ | refine WkL.pick [14] ?_ ?_ rfl ?_ ?_ ?_ ?_ | refine WkL.pick [15] ?_ ?_ rfl ?_ ?_ ?_ ?_) <;> first | assumption | exact HOk.str (by assumption) | (simp; done) | (simp; omega) | (simp [pureO_gr, AObj.pureO, pureL, go_sem, AC.pure]; done) | (simp only [List.all_cons, List.all_nil, Bool.and_true]; exact pureO_gr (pureL_map _ (fun x => by simp [go_sem, AC.pure]))) | ((try simp only [List.map_cons, List.map_nil, av_ren_gr]); simp [AV.ren, AV.ren1, AC.ren, renP, pickS]; first | done | omega) | (simp only [List.forall_mem_cons, List.not_mem_nil, false_implies, implies_true, and_true]; (repeat' apply And.intro) <;> first | trivial | exact grV_ok (by simp) _ | exact okN_grO (fun x => by simp [go_sem, AC.pure]) | exact okN_map (fun x => by simp [go_sem, AC.pure]) | (simp [AV.ok, AV.ok1, AC.ok]; done) | (simp [AV.ok, AV.ok1, AC.ok]; omega) | (simp [AObj.okN, AC.ok]; done)) | (simp [AObj.okN]; done))
      | false =>
        rw [hg, if_neg (by simp), List.append_nil] at hnx
        simp (disch := first | omega | (simp only [go_sem]; first | done | omega)) only [go_sem, hlt, ← hx]
        repeat' (first | ((first | refine acond_d ?_ ?_ | refine acond_b ?_ ?_ | refine ag_d ?_ ?_ | refine ag_n ?_ ?_ | refine ag_bt ?_ ?_ | refine ag_bf ?_ ?_) <;> intro c <;> try simp (disch := first | omega | (simp only [go_sem]; first | done | omega)) only [go_sem, c, hlt, hsl, hg]) | ((first | refine w_draw (by kernel_rfl) (by decide +kernel) ?_ | refine gone_a x (T.drop (k + 1)) hdl ?_) <;> try simp (disch := first | omega | (simp only [go_sem]; first | done | omega)) only [go_sem, hlt, hsl, hg]))
        refine Next.mk (k + 1) ⟨by omega, by omega⟩ ?_
        rw [hnx]
        ((try simp (disch := first | omega | (simp only [go_sem]; first | done | omega)) only [go_sem]); (first | refine WkL.pick [0] ?_ ?_ rfl ?_ ?_ ?_ ?_ | refine WkL.pick [1] ?_ ?_ rfl ?_ ?_ ?_ ?_ | refine WkL.pick [2] ?_ ?_ rfl ?_ ?_ ?_ ?_ | refine WkL.pick [3] ?_ ?_ rfl ?_ ?_ ?_ ?_ | refine WkL.pick [4] ?_ ?_ rfl ?_ ?_ ?_ ?_ | refine WkL.pick [5] ?_ ?_ rfl ?_ ?_ ?_ ?_ | refine WkL.pick [6] ?_ ?_ rfl ?_ ?_ ?_ ?_ | refine WkL.pick [7] ?_ ?_ rfl ?_ ?_ ?_ ?_ | refine WkL.pick [8] ?_ ?_ rfl ?_ ?_ ?_ ?_ | refine WkL.pick [9] ?_ ?_ rfl ?_ ?_ ?_ ?_ | refine WkL.pick [10] ?_ ?_ rfl ?_ ?_ ?_ ?_ | refine WkL.pick [11] ?_ ?_ rfl ?_ ?_ ?_ ?_ | refine WkL.pick [12] ?_ ?_ rfl ?_ ?_ ?_ ?_ | refine WkL.pick [13] ?_ ?_ rfl ?_ ?_ ?_ ?_ | refine WkL.pick [14] ?_ ?_ rfl ?_ ?_ ?_ ?_ | refine WkL.pick [15] ?_ ?_ rfl ?_ ?_ ?_ ?_) <;> first | assumption | exact HOk.str (by assumption) | (simp; done) | (simp; omega) | (simp [pureO_gr, AObj.pureO, pureL, go_sem, AC.pure]; done) | (simp only [List.all_cons, List.all_nil, Bool.and_true]; exact pureO_gr (pureL_map _ (fun x => by simp [go_sem, AC.pure]))) | ((try simp only [List.map_cons, List.map_nil, av_ren_gr]); simp [AV.ren, AV.ren1, AC.ren, renP, pickS]; first | done | omega) | (simp only [List.forall_mem_cons, List.not_mem_nil, false_implies, implies_true, and_true]; (repeat' apply And.intro) <;> first | trivial | exact grV_ok (by simp) _ | exact okN_grO (fun x => by simp [go_sem, AC.pure]) | exact okN_map (fun x => by simp [go_sem, AC.pure]) | (simp [AV.ok, AV.ok1, AC.ok]; done) | (simp [AV.ok, AV.ok1, AC.ok]; omega) | (simp [AObj.okN, AC.ok]; done)) | (simp [AObj.okN]; done))
    · have hkl : k = T.length := by omega
      subst hkl
      simp (disch := first | omega | (simp only [go_sem]; first | done | omega)) only [go_sem]
      exact Ret.frzGrT 0 hH (Nat.le_refl _) rfl (pureL_map _ (fun x => by simp [go_sem, AC.pure])) rfl (map_grV _ _ _).symm hk
end Go.Proofs.YtgcjenfdndhhpaaGreatDoor
