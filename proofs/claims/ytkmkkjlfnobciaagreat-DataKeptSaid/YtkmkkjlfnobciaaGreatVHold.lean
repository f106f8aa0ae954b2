/- Holds: what is wrong with them, in the program and in the document's answer. Condition: keys are short. -/
import Derived.Test.YtkmkkjlfnobciaaGreatVStr
namespace Go.Proofs.YtkmkkjlfnobciaaGreat
open Go Go.RowKit
set_option maxRecDepth 100000
set_option linter.all false
set_option maxHeartbeats 1000000
variable {H : Hp} {K : AV → Hp → Prop}
structure Hold where
  key : ByteArray
  tag : ByteArray
  t0 : Int
  t1 : Int
  made : Int
  ends : Int
deriving DecidableEq
def encH (x : Hold) : List AC := [.str x.key, .str x.tag, .int .i64 x.t0, .int .i64 x.t1, .int .i64 x.made, .int .i64 x.ends]
attribute [go_sem, simp] encH
def leS (a b : ByteArray) : Bool := Op.bytesLess a.toList b.toList || decide (a = b)
@[go_sem] theorem leS_fold (a b : ByteArray) : (Op.bytesLess a.toList b.toList || decide (a = b)) = leS a b := (rfl)
def noS : ByteArray := ⟨#[]⟩
@[go_sem] theorem noS_fold : (⟨#[]⟩ : ByteArray) = noS := (rfl)
def Hold.short (x : Hold) : Prop := x.key.size ≤ 1000 ∧ x.tag.size ≤ 1000
def namesErr (x : Hold) : Int := if ¬isKey x.key ∨ (x.tag ≠ noS ∧ ¬isKey x.tag) then 5 else 0
def hdErr (i : Nat) (p x : Hold) : Int :=
  if namesErr x ≠ 0 then namesErr x
  else if 0 < i ∧ leS x.key p.key = true then 7
  else if x.t0 < 0 ∨ x.t1 ≤ x.t0 ∨ 345686400000 < x.t1 ∨ x.made < 0 ∨ x.ends ≤ x.made ∨ 345686400000 < x.ends then 1 else 0
def hold0 : Hold := ⟨noS, noS, 0, 0, 0, 0⟩
def hdF (l : List Hold) : Int := if 200 < l.length then 2 else errGo hdErr 0 hold0 l
theorem holdFault_a (x : Hold) (hs : x.short) (hk : K (.c (.int .i64 (namesErr x))) H) : ACalls Tryz.prog 80 [.agg (encH x)] H K := by
  obtain ⟨h1, h2⟩ := hs
  refine acalls Tryz.func80 rfl (by kernel_rfl) (by simp (disch := first | omega | (simp only [go_sem]; first | done | omega)) only [go_sem]) (fun hH => ?_)
  simp (disch := first | omega | (simp only [go_sem]; first | done | omega)) only [go_sem]
  repeat' (first | ((first | refine acond_d ?_ ?_ | refine acond_b ?_ ?_ | refine ag_d ?_ ?_ | refine ag_n ?_ ?_ | refine ag_bt ?_ ?_ | refine ag_bf ?_ ?_) <;> intro c <;> try simp (disch := first | omega | (simp only [go_sem]; first | done | omega)) only [go_sem, c]) | ((first | refine w_draw (by kernel_rfl) (by decide +kernel) ?_ | refine key_a x.key (by omega) ?_ | refine key_a x.tag (by omega) ?_) <;> try simp (disch := first | omega | (simp only [go_sem]; first | done | omega)) only [go_sem]))
  all_goals (first | refine Ret.sameE (Nat.le_refl _) (by assumption) ?_ | refine Ret.dropE (by assumption) (Nat.le_refl _) (by assumption) (by simp [AV.ok, AV.ok1, AC.ok]) ?_) <;> grind [namesErr]
theorem checkHolds_a (l : List Hold) (hlen : l.length ≤ 1099511627776) (hs : ∀ x ∈ l, x.short) (hk : K (.c (.int .i64 (hdF l))) H) : ACalls Tryz.prog 23 [.c (.lst 6 (l.map encH))] H K := by
  by_cases h6 : 200 < l.length
  · refine acalls Tryz.func23 rfl (by kernel_rfl) (by simp (disch := first | omega | (simp only [go_sem]; first | done | omega)) only [go_sem]) (fun hH => ?_)
    simp (disch := first | omega | (simp only [go_sem]; first | done | omega)) only [go_sem]
    (first | refine Ret.sameE (Nat.le_refl _) (by assumption) ?_ | refine Ret.dropE (by assumption) (Nat.le_refl _) (by assumption) (by simp [AV.ok, AV.ok1, AC.ok]) ?_) <;> simp [hdF, h6]
  have hF : hdF l = errGo hdErr 0 hold0 l := by simp [hdF, h6]
  refine acalls Tryz.func23 rfl (by kernel_rfl) (by simp (disch := first | omega | (simp only [go_sem]; first | done | omega)) only [go_sem]) (fun hH => ?_)
  simp (disch := first | omega | (simp only [go_sem]; first | done | omega)) only [go_sem]
  refine AWp.loop (H.length) [0, 9, 10] [11] (fun (k : Nat) => k ≤ l.length ∧ errGo hdErr k (prv hold0 l k) (l.drop k) = errGo hdErr 0 hold0 l) (fun (k : Nat) => [(11, (.c (.int .i64 k)))]) (fun (k : Nat) => H) (fun (k : Nat) => l.length - k) (by kernel_rfl) (fun _ => rfl) (by kernel_rfl) (by simp) (by first | (simp; done) | (simp; omega)) (by (try simp only [List.forall_mem_cons, List.not_mem_nil, false_implies, implies_true, and_true]); (try simp (disch := first | omega | (simp only [go_sem]; first | done | omega)) only [go_sem]); first | trivial | (simp [AV.ok, AV.ok1, AC.ok]; done) | (simp [AV.ok, AV.ok1, AC.ok]; omega) | (simp [AV.ok, AV.ok1, AC.ok]; assumption) | ((repeat' apply And.intro) <;> first | trivial | (simp [AV.ok, AV.ok1, AC.ok]; done) | (simp [AV.ok, AV.ok1, AC.ok]; omega) | (simp [AV.ok, AV.ok1, AC.ok]; assumption) | (refine grV_ok ?_ _; first | (simp; done) | (simp; omega) | omega))) ?_ (fun k hk1 _ _ => ?_)
  · exact Next.mk 0 ⟨by omega, rfl⟩ (by (try simp (disch := first | omega | (simp only [go_sem]; first | done | omega)) only [go_sem]); (first | refine WkL.eq ?_ ?_ | refine WkL.rest (by assumption) ?_ ?_ ?_ | refine WkL.keepL (by assumption) rfl ?_ ?_ ?_ ?_) <;> first | rfl | (simp; done) | (simp; omega) | (simp only [List.cons.injEq, AV.c.injEq, AC.int.injEq, AC.bool.injEq, AC.str.injEq, and_true, true_and, Int.natCast_add, Int.natCast_one, Int.cast_ofNat_Int]; omega) | (simp [AV.ok, AV.ok1, AC.ok]; done) | (simp [AV.ok, AV.ok1, AC.ok]; omega) | (simp only [List.forall_mem_cons, List.not_mem_nil, false_implies, implies_true, and_true]; (repeat' apply And.intro) <;> first | exact okN_map (fun x => by simp [go_sem, AC.pure]) | exact okN_grO (fun x => by simp [go_sem, AC.pure]) | (simp [AObj.okN, AC.ok]; done) | (simp [AObj.okN, AC.ok]; omega)) | (simp [*]; done) | grind)
  obtain ⟨hk1, hk2⟩ := hk1
  by_cases hlt : k < l.length
  · have hst := errGo_step hdErr hold0 l k hlt
    have hp : ∀ h : 0 < k, prv hold0 l k = l[((k : Int) - 1).toNat]'(by omega) := fun h => by rw [prv_pos _ _ _ hk1 h]; congr 1; omega
    have hv : hdErr k (prv hold0 l k) l[k] ≠ 0 → hdErr k (prv hold0 l k) l[k] = hdF l := fun h => by rw [hF, ← hk2, hst, if_neg h]
    have hn : hdErr k (prv hold0 l k) l[k] = 0 → errGo hdErr (k + 1) (prv hold0 l (k + 1)) (l.drop (k + 1)) = errGo hdErr 0 hold0 l := fun h => by rw [← hk2, hst, if_pos h]
    have hsk := hs l[k] (List.getElem_mem hlt)
    clear hst hF
    simp (disch := first | omega | (simp only [go_sem]; first | done | omega)) only [go_sem, hlt]
    repeat' (first | ((first | refine acond_d ?_ ?_ | refine acond_b ?_ ?_ | refine ag_d ?_ ?_ | refine ag_n ?_ ?_ | refine ag_bt ?_ ?_ | refine ag_bf ?_ ?_) <;> intro c <;> try simp (disch := first | omega | (simp only [go_sem]; first | done | omega)) only [go_sem, c]) | ((first | refine w_draw (by kernel_rfl) (by decide +kernel) ?_ | refine holdFault_a _ hsk ?_) <;> try simp (disch := first | omega | (simp only [go_sem]; first | done | omega)) only [go_sem]))
    all_goals first
      | (refine Next.mk (k + 1) (by grind [hdErr]) ?_; (try simp (disch := first | omega | (simp only [go_sem]; first | done | omega)) only [go_sem]); (first | refine WkL.eq ?_ ?_ | refine WkL.rest (by assumption) ?_ ?_ ?_ | refine WkL.keepL (by assumption) rfl ?_ ?_ ?_ ?_) <;> first | rfl | (simp; done) | (simp; omega) | (simp only [List.cons.injEq, AV.c.injEq, AC.int.injEq, AC.bool.injEq, AC.str.injEq, and_true, true_and, Int.natCast_add, Int.natCast_one, Int.cast_ofNat_Int]; omega) | (simp [AV.ok, AV.ok1, AC.ok]; done) | (simp [AV.ok, AV.ok1, AC.ok]; omega) | (simp only [List.forall_mem_cons, List.not_mem_nil, false_implies, implies_true, and_true]; (repeat' apply And.intro) <;> first | exact okN_map (fun x => by simp [go_sem, AC.pure]) | exact okN_grO (fun x => by simp [go_sem, AC.pure]) | (simp [AObj.okN, AC.ok]; done) | (simp [AObj.okN, AC.ok]; omega)) | (simp [*]; done) | grind)
      | (first | refine Ret.sameE (Nat.le_refl _) (by assumption) ?_ | refine Ret.dropE (by assumption) (Nat.le_refl _) (by assumption) (by simp [AV.ok, AV.ok1, AC.ok]) ?_) <;> grind [hdErr]
  · simp (disch := first | omega | (simp only [go_sem]; first | done | omega)) only [go_sem, hlt]
    have := errGo_end hdErr (prv hold0 l k) l k (by omega)
    (first | refine Ret.sameE (Nat.le_refl _) (by assumption) ?_ | refine Ret.dropE (by assumption) (Nat.le_refl _) (by assumption) (by simp [AV.ok, AV.ok1, AC.ok]) ?_) <;> (first | rfl | (simp only [AV.c.injEq, AC.bool.injEq]; rw [Bool.eq_iff_iff]; simp only [Bool.not_eq_true', decide_eq_true_eq, decide_eq_false_iff_not, Bool.and_eq_true, Bool.or_eq_true]; omega) | grind | (simp [*]; done) | (simp [*]; omega))
theorem leS_no {s : ByteArray} (h : isKey s) : leS s noS = false := by
  have h1 : s.size ≠ 0 := by have := h.1; omega
  have h2 : s ≠ noS := fun h' => h1 (size_zero.1 h')
  unfold leS
  rw [decide_eq_false h2, Bool.or_false, ByteArray.toList_eq, ByteArray.toList_eq]
  show Op.bytesLess s.data.toList [] = false
  cases s.data.toList <;> rfl
theorem timeFault_a (a b : Int) (hk : K (.c (.int .i64 (if a < 0 ∨ b ≤ a ∨ 345686400000 < b then 1 else 0))) H) : ACalls Tryz.prog 70 [.agg [.int .i64 a, .int .i64 b]] H K := by
  refine acalls Tryz.func70 rfl (by kernel_rfl) (by simp (disch := first | omega | (simp only [go_sem]; first | done | omega)) only [go_sem]) (fun hH => ?_)
  simp (disch := first | omega | (simp only [go_sem]; first | done | omega)) only [go_sem]
  repeat' (first | ((first | refine acond_d ?_ ?_ | refine acond_b ?_ ?_ | refine ag_d ?_ ?_ | refine ag_n ?_ ?_ | refine ag_bt ?_ ?_ | refine ag_bf ?_ ?_) <;> intro c <;> try simp (disch := first | omega | (simp only [go_sem]; first | done | omega)) only [go_sem, c]) | ((first | refine w_draw (by kernel_rfl) (by decide +kernel) ?_) <;> try simp (disch := first | omega | (simp only [go_sem]; first | done | omega)) only [go_sem]))
  all_goals (first | refine Ret.sameE (Nat.le_refl _) (by assumption) ?_ | refine Ret.dropE (by assumption) (Nat.le_refl _) (by assumption) (by simp [AV.ok, AV.ok1, AC.ok]) ?_) <;> (first | rfl | (simp only [AV.c.injEq, AC.bool.injEq]; rw [Bool.eq_iff_iff]; simp only [Bool.not_eq_true', decide_eq_true_eq, decide_eq_false_iff_not, Bool.and_eq_true, Bool.or_eq_true]; omega) | grind | (simp [*]; done) | (simp [*]; omega))
theorem holdsFault_a (l : List Hold) (hlen : l.length ≤ 1099511627776) (hs : ∀ x ∈ l, x.short) (hk : K (.c (.int .i64 (hdF l))) H) : ACalls Tryz.prog 15 [.c (.lst 6 (l.map encH))] H K := by
  by_cases h6 : 200 < l.length
  · refine acalls Tryz.func15 rfl (by kernel_rfl) (by simp (disch := first | omega | (simp only [go_sem]; first | done | omega)) only [go_sem]) (fun hH => ?_)
    simp (disch := first | omega | (simp only [go_sem]; first | done | omega)) only [go_sem]
    (first | refine Ret.sameE (Nat.le_refl _) (by assumption) ?_ | refine Ret.dropE (by assumption) (Nat.le_refl _) (by assumption) (by simp [AV.ok, AV.ok1, AC.ok]) ?_) <;> simp [hdF, h6]
  have hF : hdF l = errGo hdErr 0 hold0 l := by simp [hdF, h6]
  refine acalls Tryz.func15 rfl (by kernel_rfl) (by simp (disch := first | omega | (simp only [go_sem]; first | done | omega)) only [go_sem]) (fun hH => ?_)
  simp (disch := first | omega | (simp only [go_sem]; first | done | omega)) only [go_sem]
  refine AWp.loop (H.length) [9, 10] [11, 3] (fun (k : Nat) => k ≤ l.length ∧ errGo hdErr k (prv hold0 l k) (l.drop k) = errGo hdErr 0 hold0 l) (fun (k : Nat) => [(11, (.c (.int .i64 k))), (3, (.c (.str ((prv hold0 l k).key))))]) (fun (k : Nat) => H) (fun (k : Nat) => l.length - k) (by kernel_rfl) (fun _ => rfl) (by kernel_rfl) (by simp) (by first | (simp; done) | (simp; omega)) (by (try simp only [List.forall_mem_cons, List.not_mem_nil, false_implies, implies_true, and_true]); (try simp (disch := first | omega | (simp only [go_sem]; first | done | omega)) only [go_sem]); first | trivial | (simp [AV.ok, AV.ok1, AC.ok]; done) | (simp [AV.ok, AV.ok1, AC.ok]; omega) | (simp [AV.ok, AV.ok1, AC.ok]; assumption) | ((repeat' apply And.intro) <;> first | trivial | (simp [AV.ok, AV.ok1, AC.ok]; done) | (simp [AV.ok, AV.ok1, AC.ok]; omega) | (simp [AV.ok, AV.ok1, AC.ok]; assumption) | (refine grV_ok ?_ _; first | (simp; done) | (simp; omega) | omega))) ?_ (fun k hk1 _ _ => ?_)
  · exact Next.mk 0 ⟨by omega, rfl⟩ (by (try simp (disch := first | omega | (simp only [go_sem]; first | done | omega)) only [go_sem]); (first | refine WkL.eq ?_ ?_ | refine WkL.rest (by assumption) ?_ ?_ ?_ | refine WkL.keepL (by assumption) rfl ?_ ?_ ?_ ?_) <;> first | rfl | (simp; done) | (simp; omega) | (simp only [List.cons.injEq, AV.c.injEq, AC.int.injEq, AC.bool.injEq, AC.str.injEq, and_true, true_and, Int.natCast_add, Int.natCast_one, Int.cast_ofNat_Int]; omega) | (simp [AV.ok, AV.ok1, AC.ok]; done) | (simp [AV.ok, AV.ok1, AC.ok]; omega) | (simp only [List.forall_mem_cons, List.not_mem_nil, false_implies, implies_true, and_true]; (repeat' apply And.intro) <;> first | exact okN_map (fun x => by simp [go_sem, AC.pure]) | exact okN_grO (fun x => by simp [go_sem, AC.pure]) | (simp [AObj.okN, AC.ok]; done) | (simp [AObj.okN, AC.ok]; omega)) | (simp [*]; done) | grind)
  obtain ⟨hk1, hk2⟩ := hk1
  by_cases hlt : k < l.length
  · have hst := errGo_step hdErr hold0 l k hlt
    have hp : k = 0 → (prv hold0 l k).key = noS := fun h => by subst h; rfl
    have hq : isKey l[k].key → k = 0 → leS l[k].key (prv hold0 l k).key = false := fun h1 h2 => by rw [hp h2]; exact leS_no h1
    have hv : hdErr k (prv hold0 l k) l[k] ≠ 0 → hdErr k (prv hold0 l k) l[k] = hdF l := fun h => by rw [hF, ← hk2, hst, if_neg h]
    have hn : hdErr k (prv hold0 l k) l[k] = 0 → errGo hdErr (k + 1) (prv hold0 l (k + 1)) (l.drop (k + 1)) = errGo hdErr 0 hold0 l := fun h => by rw [← hk2, hst, if_pos h]
    obtain ⟨hs1, hs2⟩ := hs l[k] (List.getElem_mem hlt)
    have hnx : (prv hold0 l (k + 1)).key = l[k].key := by rw [prv_succ _ _ _ hlt]
    clear hst hF hp
    simp (disch := first | omega | (simp only [go_sem]; first | done | omega)) only [go_sem, hlt]
    repeat' (first | ((first | refine acond_d ?_ ?_ | refine acond_b ?_ ?_ | refine ag_d ?_ ?_ | refine ag_n ?_ ?_ | refine ag_bt ?_ ?_ | refine ag_bf ?_ ?_) <;> intro c <;> try simp (disch := first | omega | (simp only [go_sem]; first | done | omega)) only [go_sem, c]) | ((first | refine w_draw (by kernel_rfl) (by decide +kernel) ?_ | refine keyR_a l[k].key (by omega) ?_ | refine keyR_a l[k].tag (by omega) ?_ | refine timeFault_a _ _ ?_) <;> try simp (disch := first | omega | (simp only [go_sem]; first | done | omega)) only [go_sem]))
    all_goals first
      | (refine Next.mk (k + 1) (by grind [hdErr, namesErr]) ?_; rw [hnx]; (try simp (disch := first | omega | (simp only [go_sem]; first | done | omega)) only [go_sem]); (first | refine WkL.eq ?_ ?_ | refine WkL.rest (by assumption) ?_ ?_ ?_ | refine WkL.keepL (by assumption) rfl ?_ ?_ ?_ ?_) <;> first | rfl | (simp; done) | (simp; omega) | (simp only [List.cons.injEq, AV.c.injEq, AC.int.injEq, AC.bool.injEq, AC.str.injEq, and_true, true_and, Int.natCast_add, Int.natCast_one, Int.cast_ofNat_Int]; omega) | (simp [AV.ok, AV.ok1, AC.ok]; done) | (simp [AV.ok, AV.ok1, AC.ok]; omega) | (simp only [List.forall_mem_cons, List.not_mem_nil, false_implies, implies_true, and_true]; (repeat' apply And.intro) <;> first | exact okN_map (fun x => by simp [go_sem, AC.pure]) | exact okN_grO (fun x => by simp [go_sem, AC.pure]) | (simp [AObj.okN, AC.ok]; done) | (simp [AObj.okN, AC.ok]; omega)) | (simp [*]; done) | grind)
      | (first | refine Ret.sameE (Nat.le_refl _) (by assumption) ?_ | refine Ret.dropE (by assumption) (Nat.le_refl _) (by assumption) (by simp [AV.ok, AV.ok1, AC.ok]) ?_) <;> grind [hdErr, namesErr]
  · simp (disch := first | omega | (simp only [go_sem]; first | done | omega)) only [go_sem, hlt]
    have := errGo_end hdErr (prv hold0 l k) l k (by omega)
    (first | refine Ret.sameE (Nat.le_refl _) (by assumption) ?_ | refine Ret.dropE (by assumption) (Nat.le_refl _) (by assumption) (by simp [AV.ok, AV.ok1, AC.ok]) ?_) <;> (first | rfl | (simp only [AV.c.injEq, AC.bool.injEq]; rw [Bool.eq_iff_iff]; simp only [Bool.not_eq_true', decide_eq_true_eq, decide_eq_false_iff_not, Bool.and_eq_true, Bool.or_eq_true]; omega) | grind | (simp [*]; done) | (simp [*]; omega))
end Go.Proofs.YtkmkkjlfnobciaaGreat
