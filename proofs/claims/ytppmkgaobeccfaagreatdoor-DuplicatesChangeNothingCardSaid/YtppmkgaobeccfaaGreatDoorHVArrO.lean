/- CompleteOf: the document's answer. Condition: at most a million; numbers from 1 to a million. -/
import Derived.Test.YtppmkgaobeccfaaGreatDoorHVArrN
namespace Go.Proofs.YtppmkgaobeccfaaGreatDoor
open Go Go.RowKit
set_option maxRecDepth 100000
set_option linter.all false
set_option maxHeartbeats 1000000
variable {H : Hp} {K : AV → Hp → Prop}
theorem ixEIt_a (l : List Int) (x : Int) (hlen : l.length ≤ 1099511627776) (hk : ∀ r : Int, (0 ≤ r ↔ x ∈ l) → K (.c (.int .i64 r)) H) : ACalls Tryz.prog 34 [.c (.lst 1 (l.map encI)), (.c (.int .i64 x))] H K := by
  refine acalls Tryz.func34 rfl (by kernel_rfl) (by simp (disch := first | omega | (simp only [go_sem]; first | done | omega)) only [go_sem]) (fun hH => ?_)
  simp (disch := first | omega | (simp only [go_sem]; first | done | omega)) only [go_sem]
  refine AWp.loop (H.length) [0, 1, 7] [8] (fun (k : Nat) => k ≤ l.length ∧ ∀ j (h : j < l.length), j < k → l[j] ≠ x) (fun (k : Nat) => [(8, (.c (.int .i64 k)))]) (fun (k : Nat) => H) (fun (k : Nat) => l.length - k) (by kernel_rfl) (fun _ => rfl) (by kernel_rfl) (by first | (simp; done) | omega) (by first | (simp; done) | (simp; omega) | omega) (by (try simp only [List.forall_mem_cons, List.not_mem_nil, false_implies, implies_true, and_true]); (try simp (disch := first | omega | (simp only [go_sem]; first | done | omega)) only [go_sem]); all_goals first | trivial | (simp [AV.ok, AV.ok1, AC.ok]; done) | (simp [AV.ok, AV.ok1, AC.ok]; omega) | (simp [AV.ok, AV.ok1, AC.ok]; assumption) | ((repeat' apply And.intro) <;> first | trivial | (simp [AV.ok, AV.ok1, AC.ok]; done) | (simp [AV.ok, AV.ok1, AC.ok]; omega) | (simp [AV.ok, AV.ok1, AC.ok]; assumption) | (refine grV_ok ?_ _; first | (simp; done) | (simp; omega) | omega))) ?_ (fun k hk1 _ _ => ?_)
  · exact Next.mk 0 (by simp) (by (try simp (disch := first | omega | (simp only [go_sem]; first | done | omega)) only [go_sem]); (first | refine WkL.eq ?_ ?_ | refine WkL.rest (by assumption) ?_ ?_ ?_ | refine WkL.keepL (by assumption) rfl ?_ ?_ ?_ ?_) <;> first | rfl | (simp; done) | (simp; omega) | (simp only [List.cons.injEq, AV.c.injEq, AC.int.injEq, AC.bool.injEq, AC.str.injEq, and_true, true_and, Int.natCast_add, Int.natCast_one, Int.cast_ofNat_Int]; omega) | (simp [AV.ok, AV.ok1, AC.ok]; done) | (simp [AV.ok, AV.ok1, AC.ok]; omega) | (simp only [List.forall_mem_cons, List.not_mem_nil, false_implies, implies_true, and_true]; (repeat' apply And.intro) <;> first | exact okN_map (fun x => by simp [go_sem, AC.pure]) | exact okN_grO (fun x => by simp [go_sem, AC.pure]) | (simp [AObj.okN, AC.ok]; done) | (simp [AObj.okN, AC.ok]; omega)) | (simp [*]; done) | grind)
  obtain ⟨hk1, hk2⟩ := hk1
  by_cases hlt : k < l.length
  · simp (disch := first | omega | (simp only [go_sem]; first | done | omega)) only [go_sem]
    refine acond_d (fun c => ?_) (fun c => ?_)
    · have c2 : l[k] = x := by first | exact c | exact c.symm | exact of_decide_eq_true c
      simp (disch := first | omega | (simp only [go_sem]; first | done | omega)) only [go_sem]
      refine Ret.same (Nat.le_refl _) (hk k ?_)
      simp only [Int.natCast_nonneg, true_iff]
      rw [← c2]
      exact List.getElem_mem _
    · have c2 : l[k] ≠ x := by first | exact c | exact Ne.symm c | exact fun e => c e.symm
      simp (disch := first | omega | (simp only [go_sem]; first | done | omega)) only [go_sem]
      refine Next.mk (k + 1) ⟨⟨by omega, fun j h hj => ?_⟩, by omega⟩ (by (try simp (disch := first | omega | (simp only [go_sem]; first | done | omega)) only [go_sem]); (first | refine WkL.eq ?_ ?_ | refine WkL.rest (by assumption) ?_ ?_ ?_ | refine WkL.keepL (by assumption) rfl ?_ ?_ ?_ ?_) <;> first | rfl | (simp; done) | (simp; omega) | (simp only [List.cons.injEq, AV.c.injEq, AC.int.injEq, AC.bool.injEq, AC.str.injEq, and_true, true_and, Int.natCast_add, Int.natCast_one, Int.cast_ofNat_Int]; omega) | (simp [AV.ok, AV.ok1, AC.ok]; done) | (simp [AV.ok, AV.ok1, AC.ok]; omega) | (simp only [List.forall_mem_cons, List.not_mem_nil, false_implies, implies_true, and_true]; (repeat' apply And.intro) <;> first | exact okN_map (fun x => by simp [go_sem, AC.pure]) | exact okN_grO (fun x => by simp [go_sem, AC.pure]) | (simp [AObj.okN, AC.ok]; done) | (simp [AObj.okN, AC.ok]; omega)) | (simp [*]; done) | grind)
      rcases Nat.lt_or_ge j k with h1 | h1
      · exact hk2 j h h1
      · obtain rfl : j = k := by omega
        exact c2
  · simp (disch := first | omega | (simp only [go_sem]; first | done | omega)) only [go_sem]
    refine Ret.same (Nat.le_refl _) (hk (-1) ?_)
    have : x ∉ l := by
      intro hx
      obtain ⟨j, hj, e⟩ := List.getElem_of_mem hx
      exact hk2 j hj (by omega) e
    simp [this]
theorem hasIt_a (l : List Int) (x : Int) (hlen : l.length ≤ 1099511627776) (hk : K (.c (.bool (decide (x ∈ l)))) H) : ACalls Tryz.prog 8 [.c (.lst 1 (l.map encI)), (.c (.int .i64 x))] H K := by
  refine acalls Tryz.func8 rfl (by kernel_rfl) (by simp (disch := first | omega | (simp only [go_sem]; first | done | omega)) only [go_sem]) (fun hH => ?_)
  simp (disch := first | omega | (simp only [go_sem]; first | done | omega)) only [go_sem]
  refine ixEIt_a l x hlen (fun r hr => ?_)
  simp (disch := first | omega | (simp only [go_sem]; first | done | omega)) only [go_sem]
  refine Ret.same (Nat.le_refl _) ?_
  rw [show decide (0 ≤ r) = decide (x ∈ l) by rw [Bool.eq_iff_iff, decide_eq_true_eq, decide_eq_true_eq]; exact hr]
  exact hk
theorem arvF_mem {l : List Arr} {n : ByteArray} {y : Int} : y ∈ arvF l n ↔ y ∈ evF l n := by
  unfold arvF
  rw [cplF_mem, srtI_mem]
  have key : ∀ (l : List Arr) (s : List Int), y ∈ l.foldl (fun s x => if x.nd = n then addE s x.p.n else s) s ↔ y ∈ s ∨ y ∈ nsF l n := by
    intro l
    induction l with
    | nil => intro s; simp [nsF]
    | cons a t ih =>
      intro s
      rw [List.foldl_cons, ih]
      unfold nsF
      by_cases ha : a.nd = n
      · rw [if_pos ha, addE_mem, List.filter_cons_of_pos (by simpa using ha), List.map_cons, List.mem_cons, or_assoc]
      · rw [if_neg ha, List.filter_cons_of_neg (by simpa using ha)]
  unfold evF
  rw [key]
  simp
theorem cplG_le {α : Type} [DecidableEq α] : ∀ (t : List α) (p : α), (cplG p t).length ≤ t.length
  | [], _ => by simp [cplG]
  | y :: t, p => by
    have ih := cplG_le t y
    unfold cplG
    split <;> simp <;> omega
theorem cplF_le {α : Type} [DecidableEq α] (l : List α) : (cplF l).length ≤ l.length := by
  cases l with
  | nil => exact Nat.le_refl _
  | cons x t => have := cplG_le t x; unfold cplF; simp; omega
end Go.Proofs.YtppmkgaobeccfaaGreatDoor
