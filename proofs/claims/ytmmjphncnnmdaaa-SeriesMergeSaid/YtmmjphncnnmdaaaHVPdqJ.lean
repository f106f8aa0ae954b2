/- Series sorted and compacted, those of no element too. -/
import Derived.Test.YtmmjphncnnmdaaaHVPdqI
namespace Go.Proofs.Ytmmjphncnnmdaaa
open Go Go.RowKit
set_option maxRecDepth 100000
set_option linter.all false
set_option maxHeartbeats 1000000
variable {H : Hp} {K : AV → Hp → Prop}
theorem insNil_a {f : FuncId} (hk : K (.tup []) H) : ACalls Try.prog 97 [.c (.sl none 0), (.c (.int .i64 0)), (.c (.int .i64 0)), .c (.fn f [] [])] H K := by
  refine acalls Try.func97 rfl (by kernel_rfl) (by simp (disch := first | omega | (simp only [go_sem]; first | done | omega)) only [go_sem]) (fun hH => ?_)
  simp (disch := first | omega | (simp only [go_sem]; first | done | omega)) only [go_sem]
  refine AWp.loop (H.length) [0, 1, 2, 3] [8] (fun (q : Unit) => True) (fun (q : Unit) => [(8, (.c (.int .i64 1)))]) (fun (q : Unit) => H) (fun (q : Unit) => 0) (by kernel_rfl) (fun _ => rfl) (by kernel_rfl) (by simp) (by first | (simp; done) | (simp; omega)) (by (try simp only [List.forall_mem_cons, List.not_mem_nil, false_implies, implies_true, and_true]); (try simp (disch := first | omega | (simp only [go_sem]; first | done | omega)) only [go_sem]); all_goals first | trivial | (simp [AV.ok, AV.ok1, AC.ok]; done) | (simp [AV.ok, AV.ok1, AC.ok]; omega) | (simp [AV.ok, AV.ok1, AC.ok]; assumption) | ((repeat' apply And.intro) <;> first | trivial | (simp [AV.ok, AV.ok1, AC.ok]; done) | (simp [AV.ok, AV.ok1, AC.ok]; omega) | (simp [AV.ok, AV.ok1, AC.ok]; assumption) | (refine grV_ok ?_ _; first | (simp; done) | (simp; omega) | omega))) ?_ (fun q hq _ _ => ?_)
  · exact Next.mk () trivial (by (try simp (disch := first | omega | (simp only [go_sem]; first | done | omega)) only [go_sem]); (first | refine WkL.eq ?_ ?_ | refine WkL.rest (by assumption) ?_ ?_ ?_ | refine WkL.keepL (by assumption) rfl ?_ ?_ ?_ ?_) <;> first | rfl | (simp; done) | (simp; omega) | (simp only [List.cons.injEq, AV.c.injEq, AC.int.injEq, AC.bool.injEq, AC.str.injEq, and_true, true_and, Int.natCast_add, Int.natCast_one, Int.cast_ofNat_Int]; omega) | (simp [AV.ok, AV.ok1, AC.ok]; done) | (simp [AV.ok, AV.ok1, AC.ok]; omega) | (simp only [List.forall_mem_cons, List.not_mem_nil, false_implies, implies_true, and_true]; (repeat' apply And.intro) <;> first | exact okN_map (fun x => by simp [go_sem, AC.pure]) | exact okN_grO (fun x => by simp [go_sem, AC.pure]) | (simp [AObj.okN, AC.ok]; done) | (simp [AObj.okN, AC.ok]; omega)) | (simp [*]; done) | grind)
  simp (disch := first | omega | (simp only [go_sem]; first | done | omega)) only [go_sem]
  exact Ret.same (Nat.le_refl _) hk
theorem pdqNil_a {f : FuncId} {l : Nat} (hk : K (.tup []) H) : ACalls Try.prog 84 [.c (.sl none 0), (.c (.int .i64 0)), (.c (.int .i64 0)), (.c (.int .i64 l)), .c (.fn f [] [])] H K := by
  refine acallsS Try.func84 rfl (by simp (disch := first | omega | (simp only [go_sem]; first | done | omega)) only [go_sem]) (fun hH => ?_)
  (refine SWp.go (by kernel_rfl) ?_; simp (disch := first | omega | (simp only [go_sem]; first | done | omega)) only [go_sem])
  (refine SWp.go (by kernel_rfl) ?_; simp (disch := first | omega | (simp only [go_sem]; first | done | omega)) only [go_sem])
  refine SWp.inB ?_
  refine SWp.loop (H.length) [0, 4] [1, 2, 3, 10, 11] (fun (s : Unit) => True) (fun (s : Unit) => [(1, (.c (.int .i64 0))), (2, (.c (.int .i64 0))), (3, (.c (.int .i64 l))), (10, (.c (.bool true))), (11, (.c (.bool true)))]) (fun (s : Unit) => H) (fun (s : Unit) => 0) (fun _ => rfl) (by kernel_rfl) (by simp) (by first | (simp; done) | (simp; omega)) (by (try simp only [List.forall_mem_cons, List.not_mem_nil, false_implies, implies_true, and_true]); (try simp (disch := first | omega | (simp only [go_sem]; first | done | omega)) only [go_sem]); all_goals first | trivial | (simp [AV.ok, AV.ok1, AC.ok]; done) | (simp [AV.ok, AV.ok1, AC.ok]; omega) | (simp [AV.ok, AV.ok1, AC.ok]; assumption) | ((repeat' apply And.intro) <;> first | trivial | (simp [AV.ok, AV.ok1, AC.ok]; done) | (simp [AV.ok, AV.ok1, AC.ok]; omega) | (simp [AV.ok, AV.ok1, AC.ok]; assumption) | (refine grV_ok ?_ _; first | (simp; done) | (simp; omega) | omega))) ?_ (fun s _ _ _ => ?_)
  · exact Next.mk () trivial (by (try simp (disch := first | omega | (simp only [go_sem]; first | done | omega)) only [go_sem]); (first | refine WkL.eq ?_ ?_ | refine WkL.rest (by assumption) ?_ ?_ ?_ | refine WkL.keepL (by assumption) rfl ?_ ?_ ?_ ?_) <;> first | rfl | (simp; done) | (simp; omega) | (simp only [List.cons.injEq, AV.c.injEq, AC.int.injEq, AC.bool.injEq, AC.str.injEq, and_true, true_and, Int.natCast_add, Int.natCast_one, Int.cast_ofNat_Int]; omega) | (simp [AV.ok, AV.ok1, AC.ok]; done) | (simp [AV.ok, AV.ok1, AC.ok]; omega) | (simp only [List.forall_mem_cons, List.not_mem_nil, false_implies, implies_true, and_true]; (repeat' apply And.intro) <;> first | exact okN_map (fun x => by simp [go_sem, AC.pure]) | exact okN_grO (fun x => by simp [go_sem, AC.pure]) | (simp [AObj.okN, AC.ok]; done) | (simp [AObj.okN, AC.ok]; omega)) | (simp [*]; done) | grind)
  refine SWp.inB ?_
  refine SWp.of (by kernel_rfl) ?_
  simp (disch := first | omega | (simp only [go_sem]; first | done | omega)) only [go_sem]
  refine insNil_a ?_
  simp (disch := first | omega | (simp only [go_sem]; first | done | omega)) only [go_sem]
  exact Ret.same (by simp) hk
theorem sortNil_a {f : FuncId} (hk : K (.tup []) H) : ACalls Try.prog 53 [.c (.sl none 0), .c (.fn f [] [])] H K := by
  refine acalls Try.func53 rfl (by kernel_rfl) (by simp (disch := first | omega | (simp only [go_sem]; first | done | omega)) only [go_sem]) (fun hH => ?_)
  simp (disch := first | omega | (simp only [go_sem]; first | done | omega)) only [go_sem]
  have hw : IntKind.u64.wrap (0 : Int) = (0 : Nat) := by decide
  try rw [hw]
  refine lenn_a (n := 0) (by omega) ?_
  simp (disch := first | omega | (simp only [go_sem]; first | done | omega)) only [go_sem]
  refine pdqNil_a ?_
  simp (disch := first | omega | (simp only [go_sem]; first | done | omega)) only [go_sem]
  exact Ret.same (Nat.le_refl _) hk
theorem pdqG_len {lt : Smp → Smp → Bool} (hS : Go.Sort.SWO lt) (l : List Smp) : (pdqG lt l).length = l.length := by
  have h := (Go.Sort.pdq_sorts lt hS l.toArray 0 l.length (Go.Sort.bitsLen l.length) true true (by omega) (by simp) (.inl rfl)).1.1
  unfold pdqG
  rw [Array.length_toList, h]
  simp
theorem sortGrS_a {f : FuncId} {lt : Smp → Smp → Bool} {P : Smp → Prop} (hS : Go.Sort.SWO lt) (hc : CmpA f lt P) {i : Nat} (l : List Smp) (hi : H[i]? = some (grO 46 3 (l.map encS))) (h14 : l.length ≤ 14) (hP : ∀ x ∈ l, P x)
    (hk : K (.tup []) (H.set i (grO 46 3 ((pdqG lt l).map encS)))) :
    ACalls Try.prog 53 [.c (grV i l), .c (.fn f [] [])] H K := by
  have hlen := pdqG_len hS l
  by_cases h : l = []
  · subst h
    have e : pdqG lt [] = [] := List.length_eq_zero_iff.1 hlen
    rw [e, set_same hi] at hk
    exact sortNil_a hk
  · have h2 : l.map encS ≠ [] := by simpa using h
    have h3 : (pdqG lt l).map encS ≠ [] := by
      intro h4
      have := congrArg List.length h4
      rw [List.length_map, hlen] at this
      exact h (List.length_eq_zero_iff.1 this)
    rw [grO_pos _ _ h2] at hi
    rw [grO_pos _ _ h3] at hk
    rw [grV_pos _ h]
    exact sortFunc_a hS hc l hi rfl h14 hP hk
theorem compactNil_a {f : FuncId} (hk : K (.c (.lst 3 [])) H) : ACalls Try.prog 55 [.c (.sl none 0), .c (.fn f [] [])] H K := by
  refine acalls Try.func55 rfl (by kernel_rfl) (by simp (disch := first | omega | (simp only [go_sem]; first | done | omega)) only [go_sem]) (fun hH => ?_)
  simp (disch := first | omega | (simp only [go_sem]; first | done | omega)) only [go_sem]
  refine Ret.nil [3] (Nat.le_refl _) ?_
  exact Ret.same (Nat.le_refl _) hk
theorem compactGrS_a {f : FuncId} {e : Smp → Smp → Bool} (hc : EqA f e) {i : Nat} (l : List Smp) (hi : H[i]? = some (grO 46 3 (l.map encS))) (hlen : l.length ≤ 1000000)
    (hk : K (.c (.lst 3 ((compactG e l).map encS))) (H.set i .dead)) :
    ACalls Try.prog 55 [.c (grV i l), .c (.fn f [] [])] H K := by
  by_cases h : l = []
  · subst h
    have hi2 : H[i]? = some AObj.dead := hi
    rw [set_same hi2] at hk
    exact compactNil_a hk
  · have h2 : l.map encS ≠ [] := by simpa using h
    rw [grO_pos _ _ h2] at hi
    rw [grV_pos _ h]
    exact compactFunc_a hc l hi rfl hlen hk
theorem grV_len {α β : Type} (i : Nat) (l : List α) (m : List β) (h : l.length = m.length) : grV i l = grV i m := by
  cases l with
  | nil => cases m with
    | nil => rfl
    | cons y ys => cases h
  | cons x xs => cases m with
    | nil => cases h
    | cons y ys =>
      show AC.sl (some (i, 0)) (xs.length + 1) = AC.sl (some (i, 0)) (ys.length + 1)
      rw [show xs.length + 1 = ys.length + 1 from h]
theorem compactG_le (e : Smp → Smp → Bool) : ∀ l : List Smp, (compactG e l).length ≤ l.length
  | [] => Nat.le_refl _
  | x :: t => by
    have h : ∀ (t : List Smp) (p : Smp), (cptG e p t).length ≤ t.length := by
      intro t
      induction t with
      | nil => intro p; exact Nat.le_refl _
      | cons y t ih =>
        intro p
        rw [cptG, List.length_append, List.length_cons]
        have := ih y
        split <;> simp <;> omega
    show (cptG e x t).length + 1 ≤ t.length + 1
    have := h t x
    omega
/-- both series: sorted, one of each moment -/
def mergedG (a b : List Smp) : List Smp := compactG sameT (pdqG ltM (a ++ b))
theorem mergedOf_a (a b : List Smp) (hl : a.length + b.length ≤ 14) (hP : ∀ x ∈ a ++ b, inV x) (hk : K (.tup [.c (.lst 3 ((mergedG a b).map encS)), (.c (.int .i64 0))]) H) :
    ACalls Try.prog 28 [.c (.lst 3 (a.map encS)), .c (.lst 3 (b.map encS))] H K := by
  have hlen := pdqG_len swoM (a ++ b)
  rw [List.length_append] at hlen
  have hcl := compactG_le sameT (pdqG ltM (a ++ b))
  refine acalls Try.func28 rfl (by kernel_rfl) (by simp (disch := first | omega | (simp only [go_sem]; first | done | omega)) only [go_sem]) (fun hH => ?_)
  simp (disch := first | omega | (simp only [go_sem]; first | done | omega)) only [go_sem]
  refine ACalls.lit (i := H.length) (by first | exact at0 (by simp) | exact at1 (by simp) | exact at2 (by simp) | exact at3 (by simp) | exact at4 (by simp) | exact at5 (by simp) | exact atG 6 (by simp) rfl | exact atG 7 (by simp) rfl | exact atG 8 (by simp) rfl | exact atG 9 (by simp) rfl | exact atG 10 (by simp) rfl | assumption) (by simp [pureL, AC.pure]) (args' := [.c (.lst 1 [[.lst 3 (a.map encS)], [.lst 3 (b.map encS)]])]) (by simp [AV.frz1, AC.frz]) (concatS_a a b (by omega) (by omega) ?_)
  simp (disch := first | omega | (simp only [go_sem]; first | done | omega)) only [go_sem]
  refine sortGrS_a swoM cmpR (a ++ b) (by first | exact at0 (by simp) | exact at1 (by simp) | exact at2 (by simp) | exact at3 (by simp) | exact at4 (by simp) | exact at5 (by simp) | exact atG 6 (by simp) rfl | exact atG 7 (by simp) rfl | exact atG 8 (by simp) rfl | exact atG 9 (by simp) rfl | exact atG 10 (by simp) rfl | assumption) (by rw [List.length_append]; exact hl) hP ?_
  simp (disch := first | omega | (simp only [go_sem]; first | done | omega)) only [go_sem]
  rw [grV_len _ (a ++ b) (pdqG ltM (a ++ b)) (by rw [hlen, List.length_append])]
  refine compactGrS_a eqR (pdqG ltM (a ++ b)) (by first | exact at0 (by simp) | exact at1 (by simp) | exact at2 (by simp) | exact at3 (by simp) | exact at4 (by simp) | exact at5 (by simp) | exact atG 6 (by simp) rfl | exact atG 7 (by simp) rfl | exact atG 8 (by simp) rfl | exact atG 9 (by simp) rfl | exact atG 10 (by simp) rfl | assumption) (by omega) ?_
  simp (disch := first | omega | (simp only [go_sem]; first | done | omega)) only [go_sem]
  exact Ret.drop hH (Nat.le_refl _) (by simp [AV.ok, AV.ok1, AC.ok]) hk
end Go.Proofs.Ytmmjphncnnmdaaa
