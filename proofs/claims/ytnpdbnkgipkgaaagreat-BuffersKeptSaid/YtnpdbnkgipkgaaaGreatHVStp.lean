/- Steps of a buffer: their faults, in the program and in the document's answer. Condition: the list is not huge. -/
import Derived.Test.YtnpdbnkgipkgaaaGreatHVNodeA
import Derived.Test.YtnpdbnkgipkgaaaGreatHVGD
namespace Go.Proofs.YtnpdbnkgipkgaaaGreat
open Go Go.RowKit
set_option maxRecDepth 100000
set_option linter.all false
set_option maxHeartbeats 1000000
variable {H : Hp} {K : AV → Hp → Prop}
def stpErr (x : Stp) : Int :=
  if x.kind = 1 then (if ¬ isKey x.tag then 5 else if smpErr x.s ≠ 0 then smpErr x.s else if x.count = 0 ∧ x.seq = 0 then 0 else 3)
  else if x.kind = 2 then (if x.count < 1 ∨ 2000 < x.count then 1 else if x.seq = 0 ∧ x.tag = noS ∧ x.s.t = 0 ∧ x.s.v = 0 ∧ x.s.q = 0 then 0 else 3)
  else if x.kind = 3 then (if x.seq < 0 ∨ 1000000 < x.seq then 1 else if x.count = 0 ∧ x.tag = noS ∧ x.s.t = 0 ∧ x.s.v = 0 ∧ x.s.q = 0 then 0 else 3)
  else if x.kind = 4 then (if x.count = 0 ∧ x.seq = 0 ∧ x.tag = noS ∧ x.s.t = 0 ∧ x.s.v = 0 ∧ x.s.q = 0 then 0 else 3) else 4
def stpG (_ : Nat) (_ x : Stp) : Int := stpErr x
def stp0 : Stp := ⟨0, 0, 0, ⟨#[]⟩, ⟨0, 0, 0⟩⟩
def stpF (l : List Stp) : Int := if 2000 < l.length then 2 else errGo stpG 0 stp0 l
theorem stpF_all {l : List Stp} (h : stpF l = 0) : l.length ≤ 2000 ∧ ∀ x ∈ l, stpErr x = 0 := by
  unfold stpF at h
  split at h
  · cases h
  · refine ⟨by omega, ?_⟩
    have key : ∀ (l : List Stp) (k : Nat) (p : Stp), errGo stpG k p l = 0 → ∀ x ∈ l, stpErr x = 0 := by
      intro l
      induction l with
      | nil => intro k p _ x hx; cases hx
      | cons y t ih =>
        intro k p h x hx
        unfold errGo at h
        split at h
        · rename_i h0
          rcases List.mem_cons.1 hx with rfl | hx
          · exact h0
          · exact ih _ _ h x hx
        · rename_i h0; exact absurd h h0
    exact key l 0 stp0 h
theorem stp_count {x : Stp} (h : stpErr x = 0) (hk : x.kind = 2) : 1 ≤ x.count ∧ x.count ≤ 2000 := by
  unfold stpErr at h
  rw [if_neg (by omega), if_pos hk] at h
  split at h
  · cases h
  · omega
theorem stp_seq {x : Stp} (h : stpErr x = 0) (hk : x.kind = 3) : 0 ≤ x.seq ∧ x.seq ≤ 1000000 := by
  unfold stpErr at h
  rw [if_neg (by omega), if_neg (by omega), if_pos hk] at h
  split at h
  · cases h
  · omega
theorem stepFaultB_a (x : Stp) (hx : x.tag.size ≤ 1099511627776) (hk : K (.c (.int .i64 (stpErr x))) H) : ACalls Tryz.prog 69 [.agg (encStp x)] H K := by
  refine acalls Tryz.func69 rfl (by kernel_rfl) (by simp (disch := first | omega | (simp only [go_sem]; first | done | omega)) only [go_sem]) (fun hH => ?_)
  simp (disch := first | omega | (simp only [go_sem]; first | done | omega)) only [go_sem]
  repeat' (first | ((first | refine acond_d ?_ ?_ | refine acond_b ?_ ?_ | refine ag_d ?_ ?_ | refine ag_n ?_ ?_ | refine ag_bt ?_ ?_ | refine ag_bf ?_ ?_) <;> intro c <;> try simp (disch := first | omega | (simp only [go_sem]; first | done | omega)) only [go_sem, c]) | ((first | refine w_draw (by kernel_rfl) (by decide +kernel) ?_ | refine key_a _ hx ?_ | refine checkSample_a x.s ?_ | refine out_a _ _ _ _ _ ?_) <;> try simp (disch := first | omega | (simp only [go_sem]; first | done | omega)) only [go_sem]))
  all_goals (first | refine Ret.sameE (Nat.le_refl _) (by assumption) ?_ | refine Ret.dropE (by assumption) (Nat.le_refl _) (by assumption) (by simp [AV.ok, AV.ok1, AC.ok]) ?_) <;> grind [stpErr]
theorem checkSteps_a (l : List Stp) (hlen : l.length ≤ 1099511627776) (ht : ∀ x ∈ l, x.tag.size ≤ 1099511627776) (hk : K (.c (.int .i64 (stpF l))) H) : ACalls Tryz.prog 24 [.c (.lst 7 (l.map encStp))] H K := by
  by_cases h6 : 2000 < l.length
  · refine acalls Tryz.func24 rfl (by kernel_rfl) (by simp (disch := first | omega | (simp only [go_sem]; first | done | omega)) only [go_sem]) (fun hH => ?_)
    simp (disch := first | omega | (simp only [go_sem]; first | done | omega)) only [go_sem]
    (first | refine Ret.sameE (Nat.le_refl _) (by assumption) ?_ | refine Ret.dropE (by assumption) (Nat.le_refl _) (by assumption) (by simp [AV.ok, AV.ok1, AC.ok]) ?_) <;> simp [stpF, h6]
  have hF : stpF l = errGo stpG 0 stp0 l := by simp [stpF, h6]
  refine acalls Tryz.func24 rfl (by kernel_rfl) (by simp (disch := first | omega | (simp only [go_sem]; first | done | omega)) only [go_sem]) (fun hH => ?_)
  simp (disch := first | omega | (simp only [go_sem]; first | done | omega)) only [go_sem]
  refine AWp.loop (H.length) [9, 10] [11] (fun (k : Nat) => k ≤ l.length ∧ errGo stpG k (prv stp0 l k) (l.drop k) = errGo stpG 0 stp0 l) (fun (k : Nat) => [(11, (.c (.int .i64 k)))]) (fun (k : Nat) => H) (fun (k : Nat) => l.length - k) (by kernel_rfl) (fun _ => rfl) (by kernel_rfl) (by first | (simp; done) | omega) (by first | (simp; done) | (simp; omega) | omega) (by (try simp only [List.forall_mem_cons, List.not_mem_nil, false_implies, implies_true, and_true]); (try simp (disch := first | omega | (simp only [go_sem]; first | done | omega)) only [go_sem]); all_goals first | trivial | (simp [AV.ok, AV.ok1, AC.ok]; done) | (simp [AV.ok, AV.ok1, AC.ok]; omega) | (simp [AV.ok, AV.ok1, AC.ok]; assumption) | ((repeat' apply And.intro) <;> first | trivial | (simp [AV.ok, AV.ok1, AC.ok]; done) | (simp [AV.ok, AV.ok1, AC.ok]; omega) | (simp [AV.ok, AV.ok1, AC.ok]; assumption) | (refine grV_ok ?_ _; first | (simp; done) | (simp; omega) | omega))) ?_ (fun k hk1 _ _ => ?_)
  · exact Next.mk 0 ⟨by omega, rfl⟩ (by (try simp (disch := first | omega | (simp only [go_sem]; first | done | omega)) only [go_sem]); (first | refine WkL.eq ?_ ?_ | refine WkL.rest (by assumption) ?_ ?_ ?_ | refine WkL.keepL (by assumption) rfl ?_ ?_ ?_ ?_) <;> first | rfl | (simp; done) | (simp; omega) | (simp only [List.cons.injEq, AV.c.injEq, AC.int.injEq, AC.bool.injEq, AC.str.injEq, and_true, true_and, Int.natCast_add, Int.natCast_one, Int.cast_ofNat_Int]; omega) | (simp [AV.ok, AV.ok1, AC.ok]; done) | (simp [AV.ok, AV.ok1, AC.ok]; omega) | (simp only [List.forall_mem_cons, List.not_mem_nil, false_implies, implies_true, and_true]; (repeat' apply And.intro) <;> first | exact okN_map (fun x => by simp [go_sem, AC.pure]) | exact okN_grO (fun x => by simp [go_sem, AC.pure]) | (simp [AObj.okN, AC.ok]; done) | (simp [AObj.okN, AC.ok]; omega)) | (simp [*]; done) | grind)
  obtain ⟨hk1, hk2⟩ := hk1
  by_cases hlt : k < l.length
  · have hs := errGo_step stpG stp0 l k hlt
    have htk := ht l[k] (List.getElem_mem hlt)
    have hv : stpErr l[k] ≠ 0 → stpErr l[k] = stpF l := fun h => by rw [hF, ← hk2, hs, if_neg (by unfold stpG; exact h)]; rfl
    have hn : stpErr l[k] = 0 → errGo stpG (k + 1) (prv stp0 l (k + 1)) (l.drop (k + 1)) = errGo stpG 0 stp0 l := fun h => by rw [← hk2, hs, if_pos (by unfold stpG; exact h)]
    clear hs hF
    obtain ⟨x, hx⟩ : ∃ x, x = l[k] := ⟨_, rfl⟩
    rw [← hx] at htk hv hn
    simp (disch := first | omega | (simp only [go_sem]; first | done | omega)) only [go_sem, hlt, ← hx]
    refine stepFaultB_a x htk ?_
    simp (disch := first | omega | (simp only [go_sem]; first | done | omega)) only [go_sem]
    repeat' (first | ((first | refine acond_d ?_ ?_ | refine acond_b ?_ ?_ | refine ag_d ?_ ?_ | refine ag_n ?_ ?_ | refine ag_bt ?_ ?_ | refine ag_bf ?_ ?_) <;> intro c <;> try simp (disch := first | omega | (simp only [go_sem]; first | done | omega)) only [go_sem, c]) | ((first | refine w_draw (by kernel_rfl) (by decide +kernel) ?_) <;> try simp (disch := first | omega | (simp only [go_sem]; first | done | omega)) only [go_sem]))
    all_goals first
      | (refine Next.mk (k + 1) ⟨⟨hlt, hn (by assumption)⟩, by omega⟩ ?_; (try simp (disch := first | omega | (simp only [go_sem]; first | done | omega)) only [go_sem]); (first | refine WkL.eq ?_ ?_ | refine WkL.rest (by assumption) ?_ ?_ ?_ | refine WkL.keepL (by assumption) rfl ?_ ?_ ?_ ?_) <;> first | rfl | (simp; done) | (simp; omega) | (simp only [List.cons.injEq, AV.c.injEq, AC.int.injEq, AC.bool.injEq, AC.str.injEq, and_true, true_and, Int.natCast_add, Int.natCast_one, Int.cast_ofNat_Int]; omega) | (simp [AV.ok, AV.ok1, AC.ok]; done) | (simp [AV.ok, AV.ok1, AC.ok]; omega) | (simp only [List.forall_mem_cons, List.not_mem_nil, false_implies, implies_true, and_true]; (repeat' apply And.intro) <;> first | exact okN_map (fun x => by simp [go_sem, AC.pure]) | exact okN_grO (fun x => by simp [go_sem, AC.pure]) | (simp [AObj.okN, AC.ok]; done) | (simp [AObj.okN, AC.ok]; omega)) | (simp [*]; done) | grind)
      | (rw [← hv (by assumption)] at hk; exact Ret.drop hH (Nat.le_refl _) trivial hk)
  · simp (disch := first | omega | (simp only [go_sem]; first | done | omega)) only [go_sem, hlt]
    have := errGo_end stpG (prv stp0 l k) l k (by omega)
    (first | refine Ret.sameE (Nat.le_refl _) (by assumption) ?_ | refine Ret.dropE (by assumption) (Nat.le_refl _) (by assumption) (by simp [AV.ok, AV.ok1, AC.ok]) ?_) <;> (first | rfl | (simp only [AV.c.injEq, AC.bool.injEq]; rw [Bool.eq_iff_iff]; simp only [Bool.not_eq_true', decide_eq_true_eq, decide_eq_false_iff_not, Bool.and_eq_true, Bool.or_eq_true]; omega) | grind | (simp [*]; done) | (simp [*]; omega))
theorem stepsFault_a (l : List Stp) (hlen : l.length ≤ 1099511627776) (ht : ∀ x ∈ l, x.tag.size ≤ 1099511627776) (hk : K (.c (.int .i64 (stpF l))) H) : ACalls Tryz.prog 18 [.c (.lst 7 (l.map encStp))] H K := by
  by_cases h6 : 2000 < l.length
  · refine acalls Tryz.func18 rfl (by kernel_rfl) (by simp (disch := first | omega | (simp only [go_sem]; first | done | omega)) only [go_sem]) (fun hH => ?_)
    simp (disch := first | omega | (simp only [go_sem]; first | done | omega)) only [go_sem]
    (first | refine Ret.sameE (Nat.le_refl _) (by assumption) ?_ | refine Ret.dropE (by assumption) (Nat.le_refl _) (by assumption) (by simp [AV.ok, AV.ok1, AC.ok]) ?_) <;> simp [stpF, h6]
  have hF : stpF l = errGo stpG 0 stp0 l := by simp [stpF, h6]
  refine acalls Tryz.func18 rfl (by kernel_rfl) (by simp (disch := first | omega | (simp only [go_sem]; first | done | omega)) only [go_sem]) (fun hH => ?_)
  simp (disch := first | omega | (simp only [go_sem]; first | done | omega)) only [go_sem]
  refine AWp.loop (H.length) [10, 11] [12] (fun (k : Nat) => k ≤ l.length ∧ errGo stpG k (prv stp0 l k) (l.drop k) = errGo stpG 0 stp0 l) (fun (k : Nat) => [(12, (.c (.int .i64 k)))]) (fun (k : Nat) => H) (fun (k : Nat) => l.length - k) (by kernel_rfl) (fun _ => rfl) (by kernel_rfl) (by first | (simp; done) | omega) (by first | (simp; done) | (simp; omega) | omega) (by (try simp only [List.forall_mem_cons, List.not_mem_nil, false_implies, implies_true, and_true]); (try simp (disch := first | omega | (simp only [go_sem]; first | done | omega)) only [go_sem]); all_goals first | trivial | (simp [AV.ok, AV.ok1, AC.ok]; done) | (simp [AV.ok, AV.ok1, AC.ok]; omega) | (simp [AV.ok, AV.ok1, AC.ok]; assumption) | ((repeat' apply And.intro) <;> first | trivial | (simp [AV.ok, AV.ok1, AC.ok]; done) | (simp [AV.ok, AV.ok1, AC.ok]; omega) | (simp [AV.ok, AV.ok1, AC.ok]; assumption) | (refine grV_ok ?_ _; first | (simp; done) | (simp; omega) | omega))) ?_ (fun k hk1 _ _ => ?_)
  · exact Next.mk 0 ⟨by omega, rfl⟩ (by (try simp (disch := first | omega | (simp only [go_sem]; first | done | omega)) only [go_sem]); (first | refine WkL.eq ?_ ?_ | refine WkL.rest (by assumption) ?_ ?_ ?_ | refine WkL.keepL (by assumption) rfl ?_ ?_ ?_ ?_) <;> first | rfl | (simp; done) | (simp; omega) | (simp only [List.cons.injEq, AV.c.injEq, AC.int.injEq, AC.bool.injEq, AC.str.injEq, and_true, true_and, Int.natCast_add, Int.natCast_one, Int.cast_ofNat_Int]; omega) | (simp [AV.ok, AV.ok1, AC.ok]; done) | (simp [AV.ok, AV.ok1, AC.ok]; omega) | (simp only [List.forall_mem_cons, List.not_mem_nil, false_implies, implies_true, and_true]; (repeat' apply And.intro) <;> first | exact okN_map (fun x => by simp [go_sem, AC.pure]) | exact okN_grO (fun x => by simp [go_sem, AC.pure]) | (simp [AObj.okN, AC.ok]; done) | (simp [AObj.okN, AC.ok]; omega)) | (simp [*]; done) | grind)
  obtain ⟨hk1, hk2⟩ := hk1
  by_cases hlt : k < l.length
  · have hs := errGo_step stpG stp0 l k hlt
    have htk := ht l[k] (List.getElem_mem hlt)
    have hv : stpErr l[k] ≠ 0 → stpErr l[k] = stpF l := fun h => by rw [hF, ← hk2, hs, if_neg (by unfold stpG; exact h)]; rfl
    have hn : stpErr l[k] = 0 → errGo stpG (k + 1) (prv stp0 l (k + 1)) (l.drop (k + 1)) = errGo stpG 0 stp0 l := fun h => by rw [← hk2, hs, if_pos (by unfold stpG; exact h)]
    clear hs hF
    obtain ⟨x, hx⟩ : ∃ x, x = l[k] := ⟨_, rfl⟩
    rw [← hx] at htk hv hn
    have fin : ∀ e : Int, e ≠ 0 → stpErr x = e → K (.c (.int .i64 e)) H := fun e h1 h2 => by rw [← h2, hv (by rw [h2]; exact h1)]; exact hk
    clear hv hk
    simp (disch := first | omega | (simp only [go_sem]; first | done | omega)) only [go_sem, hlt, ← hx]
    repeat' (first | ((first | refine acond_d ?_ ?_ | refine acond_b ?_ ?_ | refine ag_d ?_ ?_ | refine ag_n ?_ ?_ | refine ag_bt ?_ ?_ | refine ag_bf ?_ ?_ | refine agt_d ?_ ?_ | refine agt_n ?_ ?_ | refine agt_bt ?_ ?_ | refine agt_bf ?_ ?_) <;> intro c <;> try simp (disch := first | omega | (simp only [go_sem]; first | done | omega)) only [go_sem, c]) | ((first | refine w_draw (by kernel_rfl) (by decide +kernel) ?_ | refine keyR_a _ htk ?_ | refine sampleFault_a x.s ?_ | refine in_a _ _ _ _ _ ?_ | refine w_tree (.one 0 (.one 1 (.one 2 (.one 4 (.two 3 (.one 5 (.one 6 (.one 7 .done))) 5 (.one 3 (.one 6 (.one 7 .done)))))))) (by kernel_rfl) (by decide +kernel) ?_) <;> try simp (disch := first | omega | (simp only [go_sem]; first | done | omega)) only [go_sem]) | (refine And.intro ?_ ?_ <;> try simp (disch := first | omega | (simp only [go_sem]; first | done | omega)) only [go_sem]))
    all_goals first
      | (refine Next.mk (k + 1) ⟨⟨hlt, hn (by clear hn fin hk2; grind [stpErr])⟩, by omega⟩ ?_; (try simp (disch := first | omega | (simp only [go_sem]; first | done | omega)) only [go_sem]); (first | refine WkL.eq ?_ ?_ | refine WkL.rest (by assumption) ?_ ?_ ?_ | refine WkL.keepL (by assumption) rfl ?_ ?_ ?_ ?_) <;> first | rfl | (simp; done) | (simp; omega) | (simp only [List.cons.injEq, AV.c.injEq, AC.int.injEq, AC.bool.injEq, AC.str.injEq, and_true, true_and, Int.natCast_add, Int.natCast_one, Int.cast_ofNat_Int]; omega) | (simp [AV.ok, AV.ok1, AC.ok]; done) | (simp [AV.ok, AV.ok1, AC.ok]; omega) | (simp only [List.forall_mem_cons, List.not_mem_nil, false_implies, implies_true, and_true]; (repeat' apply And.intro) <;> first | exact okN_map (fun x => by simp [go_sem, AC.pure]) | exact okN_grO (fun x => by simp [go_sem, AC.pure]) | (simp [AObj.okN, AC.ok]; done) | (simp [AObj.okN, AC.ok]; omega)) | (simp [*]; done) | grind)
      | exact Ret.drop hH (Nat.le_refl _) trivial (fin _ (by clear hn fin hk2; first | omega | grind) (by clear hn fin hk2; grind [stpErr]))
  · simp (disch := first | omega | (simp only [go_sem]; first | done | omega)) only [go_sem, hlt]
    have := errGo_end stpG (prv stp0 l k) l k (by omega)
    (first | refine Ret.sameE (Nat.le_refl _) (by assumption) ?_ | refine Ret.dropE (by assumption) (Nat.le_refl _) (by assumption) (by simp [AV.ok, AV.ok1, AC.ok]) ?_) <;> (first | rfl | (simp only [AV.c.injEq, AC.bool.injEq]; rw [Bool.eq_iff_iff]; simp only [Bool.not_eq_true', decide_eq_true_eq, decide_eq_false_iff_not, Bool.and_eq_true, Bool.or_eq_true]; omega) | grind | (simp [*]; done) | (simp [*]; omega))
def bfE (c p : Int) (l : List Stp) : Int := if c < 2 ∨ 1000 < c then 1 else if p < 1 ∨ 3 < p then 4 else stpF l
theorem bfFault_a (c p : Int) (l : List Stp) (hlen : l.length ≤ 1099511627776) (ht : ∀ x ∈ l, x.tag.size ≤ 1099511627776) (hk : K (.c (.int .i64 (bfE c p l))) H) : ACalls Tryz.prog 61 [(.c (.int .i64 c)), (.c (.int .i64 p)), .c (.lst 7 (l.map encStp))] H K := by
  refine acalls Tryz.func61 rfl (by kernel_rfl) (by simp (disch := first | omega | (simp only [go_sem]; first | done | omega)) only [go_sem]) (fun hH => ?_)
  simp (disch := first | omega | (simp only [go_sem]; first | done | omega)) only [go_sem]
  repeat' (first | ((first | refine acond_d ?_ ?_ | refine acond_b ?_ ?_ | refine ag_d ?_ ?_ | refine ag_n ?_ ?_ | refine ag_bt ?_ ?_ | refine ag_bf ?_ ?_) <;> intro c <;> try simp (disch := first | omega | (simp only [go_sem]; first | done | omega)) only [go_sem, c]) | ((first | refine w_draw (by kernel_rfl) (by decide +kernel) ?_ | refine out_a _ _ _ _ _ ?_ | refine checkSteps_a l hlen ht ?_) <;> try simp (disch := first | omega | (simp only [go_sem]; first | done | omega)) only [go_sem]))
  all_goals (first | refine Ret.sameE (Nat.le_refl _) (by assumption) ?_ | refine Ret.dropE (by assumption) (Nat.le_refl _) (by assumption) (by simp [AV.ok, AV.ok1, AC.ok]) ?_) <;> grind [bfE]
end Go.Proofs.YtnpdbnkgipkgaaaGreat
