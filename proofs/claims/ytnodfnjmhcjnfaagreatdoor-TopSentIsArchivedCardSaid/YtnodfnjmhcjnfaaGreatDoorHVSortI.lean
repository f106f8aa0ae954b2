/- Several texts in one: slices, and what follows. No condition. -/
import Derived.Shelf.Sort.Plain
import Derived.Test.YtnodfnjmhcjnfaaGreatDoorHVGA
import Derived.Test.YtnodfnjmhcjnfaaGreatDoorHVGK
import Derived.Test.YtnodfnjmhcjnfaaGreatDoorHVGD
/- slices.Sort of integers: the kit's contract in the heap's words. No condition. -/
namespace Go.Proofs.YtnodfnjmhcjnfaaGreatDoor
open Go Go.RowKit Go.Shelf
set_option maxRecDepth 100000
set_option linter.all false
set_option maxHeartbeats 1000000
variable {H : Hp} {K : AV → Hp → Prop}
def srtI (l : List Int) : List Int := l.mergeSort fun x y => decide (x ≤ y)
theorem srtI_len (l : List Int) : (srtI l).length = l.length := by unfold srtI; rw [List.length_mergeSort]
end Go.Proofs.YtnodfnjmhcjnfaaGreatDoor
/- Numbers as rows. Condition: there are not too many, and they are small. -/
namespace Go.Proofs.YtnodfnjmhcjnfaaGreatDoor
open Go Go.RowKit
set_option maxRecDepth 100000
set_option linter.all false
set_option maxHeartbeats 1000000
variable {H : Hp} {K : AV → Hp → Prop}
theorem srtI_mem {l : List Int} {x : Int} : x ∈ srtI l ↔ x ∈ l := by unfold srtI; exact (List.mergeSort_perm l _).mem_iff
theorem aIf_valS {c : Prop} {v v' : AV} {J : AV → Hp → Prop} (hc : c) (hv : v = v') (h : J v' H) : aIf c v H J := hv ▸ ⟨hc, h⟩
theorem len640_a (hk : K (.c (.int .i64 0)) H) : ACalls Tryz.prog 249 [.c (.int .u64 0)] H K := by
  refine acalls Tryz.func249 rfl (by kernel_rfl) (by simp (disch := first | omega | (simp only [go_sem]; first | done | omega)) only [go_sem]) (fun hH => ?_)
  simp (disch := first | omega | (simp only [go_sem]; first | done | omega)) only [go_sem]
  refine aIf_valS (v' := .c (.int .u8 0)) (by decide +kernel) (congrArg (fun z => AV.c (.int .u8 z)) (by decide +kernel : _ = (0 : Int))) ?_
  simp (disch := first | omega | (simp only [go_sem]; first | done | omega)) only [go_sem]
  exact Ret.same (Nat.le_refl _) hk
theorem len0_a (hk : K (.c (.int .i64 0)) H) : ACalls Tryz.prog 156 [.c (.int .u64 0)] H K := by
  refine acalls Tryz.func156 rfl (by kernel_rfl) (by simp (disch := first | omega | (simp only [go_sem]; first | done | omega)) only [go_sem]) (fun hH => ?_)
  simp (disch := first | omega | (simp only [go_sem]; first | done | omega)) only [go_sem]
  refine len640_a ?_
  simp (disch := first | omega | (simp only [go_sem]; first | done | omega)) only [go_sem]
  exact Ret.same (Nat.le_refl _) hk
end Go.Proofs.YtnodfnjmhcjnfaaGreatDoor
/- Steps of a buffer: their faults, in the program and in the document's answer. Condition: the list is not huge. -/
namespace Go.Proofs.YtnodfnjmhcjnfaaGreatDoor
open Go Go.RowKit
set_option maxRecDepth 100000
set_option linter.all false
set_option maxHeartbeats 1000000
variable {H : Hp} {K : AV → Hp → Prop}
def stpErr (x : Stp) : Int :=
  if x.kind = 1 then (if ¬ isKey x.tag then 5 else if smpErr x.s ≠ 0 then smpErr x.s else if x.count = 0 ∧ x.seq = 0 then 0 else 3)
  else if x.kind = 2 then (if x.count < 1 ∨ 2000 < x.count then 1 else if x.seq = 0 ∧ x.tag = noS ∧ x.s.t = 0 ∧ x.s.v = 0 ∧ x.s.q = 0 then 0 else 3)
  else if x.kind = 3 then (if x.seq < 0 ∨ 1000000 < x.seq then 1 else if x.count = 0 ∧ x.tag = noS ∧ x.s.t = 0 ∧ x.s.v = 0 ∧ x.s.q = 0 then 0 else 3)
  else if x.kind = 4 then (if x.count = 0 ∧ x.seq = 0 ∧ x.tag = noS ∧ x.s.t = 0 ∧ x.s.v = 0 ∧ x.s.q = 0 then 0 else 3) else 4
def stpG (_ : Nat) (_ x : Stp) : Int := stpErr x
def stp0 : Stp := ⟨0, 0, 0, ⟨#[]⟩, ⟨0, 0, 0⟩⟩
def stpF (l : List Stp) : Int := if 2000 < l.length then 2 else errGo stpG 0 stp0 l
theorem stpF_all {l : List Stp} (h : stpF l = 0) : l.length ≤ 2000 ∧ ∀ x ∈ l, stpErr x = 0 := by
  unfold stpF at h
  split at h
  · cases h
  · refine ⟨by omega, ?_⟩
    have key : ∀ (l : List Stp) (k : Nat) (p : Stp), errGo stpG k p l = 0 → ∀ x ∈ l, stpErr x = 0 := by
      intro l
      induction l with
      | nil => intro k p _ x hx; cases hx
      | cons y t ih =>
        intro k p h x hx
        unfold errGo at h
        split at h
        · rename_i h0
          rcases List.mem_cons.1 hx with rfl | hx
          · exact h0
          · exact ih _ _ h x hx
        · rename_i h0; exact absurd h h0
    exact key l 0 stp0 h
theorem stp_count {x : Stp} (h : stpErr x = 0) (hk : x.kind = 2) : 1 ≤ x.count ∧ x.count ≤ 2000 := by
  unfold stpErr at h
  rw [if_neg (by omega), if_pos hk] at h
  split at h
  · cases h
  · omega
theorem stepFaultB_a (x : Stp) (hx : x.tag.size ≤ 1099511627776) (hk : K (.c (.int .i64 (stpErr x))) H) : ACalls Tryz.prog 291 [.agg (encStp x)] H K := by
  refine acalls Tryz.func291 rfl (by kernel_rfl) (by simp (disch := first | omega | (simp only [go_sem]; first | done | omega)) only [go_sem]) (fun hH => ?_)
  simp (disch := first | omega | (simp only [go_sem]; first | done | omega)) only [go_sem]
  repeat' (first | ((first | refine acond_d ?_ ?_ | refine acond_b ?_ ?_ | refine ag_d ?_ ?_ | refine ag_n ?_ ?_ | refine ag_bt ?_ ?_ | refine ag_bf ?_ ?_) <;> intro c <;> try simp (disch := first | omega | (simp only [go_sem]; first | done | omega)) only [go_sem, c]) | ((first | refine w_draw (by kernel_rfl) (by decide +kernel) ?_ | refine key_a _ hx ?_ | refine checkSample_a x.s ?_ | refine out_a _ _ _ _ _ ?_) <;> try simp (disch := first | omega | (simp only [go_sem]; first | done | omega)) only [go_sem]))
  all_goals (first | refine Ret.sameE (Nat.le_refl _) (by assumption) ?_ | refine Ret.dropE (by assumption) (Nat.le_refl _) (by assumption) (by simp [AV.ok, AV.ok1, AC.ok]) ?_) <;> grind [stpErr]
theorem checkSteps_a (l : List Stp) (hlen : l.length ≤ 1099511627776) (ht : ∀ x ∈ l, x.tag.size ≤ 1099511627776) (hk : K (.c (.int .i64 (stpF l))) H) : ACalls Tryz.prog 224 [.c (.lst 7 (l.map encStp))] H K := by
  by_cases h6 : 2000 < l.length
  · refine acalls Tryz.func224 rfl (by kernel_rfl) (by simp (disch := first | omega | (simp only [go_sem]; first | done | omega)) only [go_sem]) (fun hH => ?_)
    simp (disch := first | omega | (simp only [go_sem]; first | done | omega)) only [go_sem]
    (first | refine Ret.sameE (Nat.le_refl _) (by assumption) ?_ | refine Ret.dropE (by assumption) (Nat.le_refl _) (by assumption) (by simp [AV.ok, AV.ok1, AC.ok]) ?_) <;> simp [stpF, h6]
  have hF : stpF l = errGo stpG 0 stp0 l := by simp [stpF, h6]
  refine acalls Tryz.func224 rfl (by kernel_rfl) (by simp (disch := first | omega | (simp only [go_sem]; first | done | omega)) only [go_sem]) (fun hH => ?_)
  simp (disch := first | omega | (simp only [go_sem]; first | done | omega)) only [go_sem]
  refine AWp.loop (H.length) [9, 10] [11] (fun (k : Nat) => k ≤ l.length ∧ errGo stpG k (prv stp0 l k) (l.drop k) = errGo stpG 0 stp0 l) (fun (k : Nat) => [(11, (.c (.int .i64 k)))]) (fun (k : Nat) => H) (fun (k : Nat) => l.length - k) (by kernel_rfl) (fun _ => rfl) (by kernel_rfl) (by first | (simp; done) | omega) (by first | (simp; done) | (simp; omega) | omega) kl ?_ (fun k hk1 _ _ => ?_)
  · exact Next.mk 0 ⟨by omega, rfl⟩ wk
  obtain ⟨hk1, hk2⟩ := hk1
  by_cases hlt : k < l.length
  · have hs := errGo_step stpG stp0 l k hlt
    have htk := ht l[k] (List.getElem_mem hlt)
    have hv : stpErr l[k] ≠ 0 → stpErr l[k] = stpF l := fun h => by rw [hF, ← hk2, hs, if_neg (by unfold stpG; exact h)]; rfl
    have hn : stpErr l[k] = 0 → errGo stpG (k + 1) (prv stp0 l (k + 1)) (l.drop (k + 1)) = errGo stpG 0 stp0 l := fun h => by rw [← hk2, hs, if_pos (by unfold stpG; exact h)]
    clear hs hF
    obtain ⟨x, hx⟩ : ∃ x, x = l[k] := ⟨_, rfl⟩
    rw [← hx] at htk hv hn
    simp (disch := first | omega | (simp only [go_sem]; first | done | omega)) only [go_sem, hlt, ← hx]
    refine stepFaultB_a x htk ?_
    simp (disch := first | omega | (simp only [go_sem]; first | done | omega)) only [go_sem]
    repeat' (first | ((first | refine acond_d ?_ ?_ | refine acond_b ?_ ?_ | refine ag_d ?_ ?_ | refine ag_n ?_ ?_ | refine ag_bt ?_ ?_ | refine ag_bf ?_ ?_) <;> intro c <;> try simp (disch := first | omega | (simp only [go_sem]; first | done | omega)) only [go_sem, c]) | ((first | refine w_draw (by kernel_rfl) (by decide +kernel) ?_) <;> try simp (disch := first | omega | (simp only [go_sem]; first | done | omega)) only [go_sem]))
    all_goals first
      | (refine Next.mk (k + 1) ⟨⟨hlt, hn (by assumption)⟩, by omega⟩ ?_; exact wk)
      | (rw [← hv (by assumption)] at hk; exact Ret.drop hH (Nat.le_refl _) trivial hk)
  · simp (disch := first | omega | (simp only [go_sem]; first | done | omega)) only [go_sem, hlt]
    have := errGo_end stpG (prv stp0 l k) l k (by omega)
    (first | refine Ret.sameE (Nat.le_refl _) (by assumption) ?_ | refine Ret.dropE (by assumption) (Nat.le_refl _) (by assumption) (by simp [AV.ok, AV.ok1, AC.ok]) ?_) <;> (first | rfl | (simp only [AV.c.injEq, AC.bool.injEq]; rw [Bool.eq_iff_iff]; simp only [Bool.not_eq_true', decide_eq_true_eq, decide_eq_false_iff_not, Bool.and_eq_true, Bool.or_eq_true]; omega) | grind | (simp [*]; done) | (simp [*]; omega))
def bfE (c p : Int) (l : List Stp) : Int := if c < 2 ∨ 1000 < c then 1 else if p < 1 ∨ 3 < p then 4 else stpF l
theorem bfFault_a (c p : Int) (l : List Stp) (hlen : l.length ≤ 1099511627776) (ht : ∀ x ∈ l, x.tag.size ≤ 1099511627776) (hk : K (.c (.int .i64 (bfE c p l))) H) : ACalls Tryz.prog 143 [(.c (.int .i64 c)), (.c (.int .i64 p)), .c (.lst 7 (l.map encStp))] H K := by
  refine acalls Tryz.func143 rfl (by kernel_rfl) (by simp (disch := first | omega | (simp only [go_sem]; first | done | omega)) only [go_sem]) (fun hH => ?_)
  simp (disch := first | omega | (simp only [go_sem]; first | done | omega)) only [go_sem]
  repeat' (first | ((first | refine acond_d ?_ ?_ | refine acond_b ?_ ?_ | refine ag_d ?_ ?_ | refine ag_n ?_ ?_ | refine ag_bt ?_ ?_ | refine ag_bf ?_ ?_) <;> intro c <;> try simp (disch := first | omega | (simp only [go_sem]; first | done | omega)) only [go_sem, c]) | ((first | refine w_draw (by kernel_rfl) (by decide +kernel) ?_ | refine out_a _ _ _ _ _ ?_ | refine checkSteps_a l hlen ht ?_) <;> try simp (disch := first | omega | (simp only [go_sem]; first | done | omega)) only [go_sem]))
  all_goals (first | refine Ret.sameE (Nat.le_refl _) (by assumption) ?_ | refine Ret.dropE (by assumption) (Nat.le_refl _) (by assumption) (by simp [AV.ok, AV.ok1, AC.ok]) ?_) <;> grind [bfE]
end Go.Proofs.YtnodfnjmhcjnfaaGreatDoor
