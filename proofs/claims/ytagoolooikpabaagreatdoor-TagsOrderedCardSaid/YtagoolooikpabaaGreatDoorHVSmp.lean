/- Several texts in one: Samples and series: their faults, in the program and in the document's answer, and what follows. No condition. -/
import Derived.Test.YtagoolooikpabaaGreatDoorHVGA
set_option linter.all false
namespace Go.Proofs.YtagoolooikpabaaGreatDoor
open Go Go.RowKit
set_option maxRecDepth 100000
set_option maxHeartbeats 1000000
variable {H : Hp} {K : AV → Hp → Prop}
structure Smp where
 t : Int
 v : Int
 q : Int
deriving DecidableEq
def encS (x : Smp) : List AC := [.int .i64 x.t, .int .i64 x.v, .int .i64 x.q]
attribute [go_sem, simp] encS
def smpErr (x : Smp) : Int := if x.t < 0 ∨ 345686399999 < x.t then 1 else if x.q < 0 ∨ 2 < x.q then 4 else if x.v < -1000000 ∨ 1000000 < x.v then 1 else if x.q = 2 ∧ x.v ≠ 0 then 3 else 0
theorem checkSample_a (x : Smp) (hk : K (.c (.int .i64 (smpErr x))) H) : ACalls Tryz.prog 177 [.agg (encS x)] H K := by
 refine acalls Tryz.func177 rfl (by kernel_rfl) (by simp (disch := first | omega | (simp only [go_sem]; try omega)) only [go_sem]) (fun hH => ?_)
 simp (disch := first | omega | (simp only [go_sem]; try omega)) only [go_sem]
 repeat' (first | ((first | refine acond_d ?_ ?_ | refine acond_b ?_ ?_ | refine ag_d ?_ ?_ | refine ag_n ?_ ?_ | refine ag_bt ?_ ?_ | refine ag_bf ?_ ?_) <;> intro c <;> try simp (disch := first | omega | (simp only [go_sem]; try omega)) only [go_sem, c]) | ((first | refine w_draw (by kernel_rfl) (by decide +kernel) ?_ | refine moment_a _ _ _ ?_ | refine out_a _ _ _ _ _ ?_) <;> try simp (disch := first | omega | (simp only [go_sem]; try omega)) only [go_sem]))
 all_goals (first | refine Ret.sameE (Nat.le_refl _) (by assumption) ?_ | refine Ret.dropE (by assumption) (Nat.le_refl _) (by assumption) (by simp [AV.ok, AV.ok1, AC.ok]) ?_) <;> grind [smpErr]
def serErr (i : Nat) (p x : Smp) : Int := if smpErr x ≠ 0 then smpErr x else if 0 < i ∧ x.t ≤ p.t then 7 else 0
def serF (l : List Smp) : Int := if 5000 < l.length then 2 else errGo serErr 0 ⟨0, 0, 0⟩ l
theorem checkSeries_a (l : List Smp) (hlen : l.length ≤ 1099511627776) (hk : K (.c (.int .i64 (serF l))) H) : ACalls Tryz.prog 123 [.c (.lst 3 (l.map encS))] H K := by
 by_cases h6 : 5000 < l.length
 ·refine acalls Tryz.func123 rfl (by kernel_rfl) (by simp (disch := first | omega | (simp only [go_sem]; try omega)) only [go_sem]) (fun hH => ?_)
  simp (disch := first | omega | (simp only [go_sem]; try omega)) only [go_sem]
  (first | refine Ret.sameE (Nat.le_refl _) (by assumption) ?_ | refine Ret.dropE (by assumption) (Nat.le_refl _) (by assumption) (by simp [AV.ok, AV.ok1, AC.ok]) ?_) <;> simp [serF, h6]
 have hF : serF l = errGo serErr 0 ⟨0, 0, 0⟩ l := by simp [serF, h6]
 refine acalls Tryz.func123 rfl (by kernel_rfl) (by simp (disch := first | omega | (simp only [go_sem]; try omega)) only [go_sem]) (fun hH => ?_)
 simp (disch := first | omega | (simp only [go_sem]; try omega)) only [go_sem]
 refine AWp.loop (H.length) [0, 9, 10] [11] (fun (k : Nat) => k ≤ l.length ∧ errGo serErr k (prv ⟨0, 0, 0⟩ l k) (l.drop k) = errGo serErr 0 ⟨0, 0, 0⟩ l) (fun (k : Nat) => [(11, (.c (.int .i64 k)))]) (fun (k : Nat) => H) (fun (k : Nat) => l.length - k) (by kernel_rfl) (fun _ => rfl) (by kernel_rfl) (by first | (simp; done) | omega) (by first | (simp; done) | (simp; omega) | omega) kl ?_ (fun k hk1 _ _ => ?_)
 ·exact Next.mk 0 ⟨by omega, rfl⟩ wk
 obtain ⟨hk1, hk2⟩ := hk1
 by_cases hlt : k < l.length
 ·have hs := errGo_step serErr ⟨0, 0, 0⟩ l k hlt
  have hp : ∀ h : 0 < k, prv ⟨0, 0, 0⟩ l k = l[((k : Int) - 1).toNat]'(by omega) := fun h => by rw [prv_pos _ _ _ hk1 h]; congr 1; omega
  have hv : serErr k (prv ⟨0, 0, 0⟩ l k) l[k] ≠ 0 → serErr k (prv ⟨0, 0, 0⟩ l k) l[k] = serF l := fun h => by rw [hF, ← hk2, hs, if_neg h]
  have hn : serErr k (prv ⟨0, 0, 0⟩ l k) l[k] = 0 → errGo serErr (k + 1) (prv ⟨0, 0, 0⟩ l (k + 1)) (l.drop (k + 1)) = errGo serErr 0 ⟨0, 0, 0⟩ l := fun h => by rw [← hk2, hs, if_pos h]
  clear hs hF
  simp (disch := first | omega | (simp only [go_sem]; try omega)) only [go_sem, hlt]
  repeat' (first | ((first | refine acond_d ?_ ?_ | refine acond_b ?_ ?_ | refine ag_d ?_ ?_ | refine ag_n ?_ ?_ | refine ag_bt ?_ ?_ | refine ag_bf ?_ ?_) <;> intro c <;> try simp (disch := first | omega | (simp only [go_sem]; try omega)) only [go_sem, c]) | ((first | refine w_draw (by kernel_rfl) (by decide +kernel) ?_ | refine checkSample_a _ ?_) <;> try simp (disch := first | omega | (simp only [go_sem]; try omega)) only [go_sem]))
  all_goals first
   | (refine Next.mk (k + 1) (by grind [serErr]) ?_; exact wk)
   | (first | refine Ret.sameE (Nat.le_refl _) (by assumption) ?_ | refine Ret.dropE (by assumption) (Nat.le_refl _) (by assumption) (by simp [AV.ok, AV.ok1, AC.ok]) ?_) <;> grind [serErr]
 ·simp (disch := first | omega | (simp only [go_sem]; try omega)) only [go_sem, hlt]
  have := errGo_end serErr (prv ⟨0, 0, 0⟩ l k) l k (by omega)
  (first | refine Ret.sameE (Nat.le_refl _) (by assumption) ?_ | refine Ret.dropE (by assumption) (Nat.le_refl _) (by assumption) (by simp [AV.ok, AV.ok1, AC.ok]) ?_) <;> (first | rfl | (simp only [AV.c.injEq, AC.bool.injEq]; rw [Bool.eq_iff_iff]; simp only [Bool.not_eq_true', decide_eq_true_eq, decide_eq_false_iff_not, Bool.and_eq_true, Bool.or_eq_true]; omega) | grind | (simp [*]; done) | (simp [*]; omega))
end Go.Proofs.YtagoolooikpabaaGreatDoor
namespace Go.Proofs.YtagoolooikpabaaGreatDoor
open Go Go.RowKit
set_option maxRecDepth 100000
set_option maxHeartbeats 1000000
variable {H : Hp} {K : AV → Hp → Prop}
theorem Ret.frzDead {ty sz n m i : Nat} {els : List (List AC)} {own : Bool} (hi : H[i]? = some (.row ty sz els own)) (hp : pureL els = true) (hm : m ≤ els.length) (hn : n ≤ H.length) (hk : K (.c (.lst sz (els.take m))) (H.set i .dead)) : Ret n (.c (.sl (some (i, 0)) m)) H K := by
 intro hH hv
 have hlt := getElem?_lt hi
 have h1 := WkL.frz (m := n) (vs := [.c (.sl (some (i, 0)) m)]) hi hp hn
 have e1 : [AV.c (AC.sl (some (i, 0)) m)].map (AV.frz i sz els) = [.c (.lst sz (els.take m))] := by simp [AV.frz, AV.frz1, AC.frz, hm]
 rw [e1] at h1
 have hok : HOk (H.set i .dead) := HOk.set hH trivial
 have h2 : WkL n [.c (.lst sz (els.take m))] (H.set i (.row ty sz els false)) [.c (.lst sz (els.take m))] (H.set i .dead) := by
  refine WkL.renL id (fun _ _ => rfl) (by simpa using hn) (fun j o hj hl => ?_) (fun j k _ _ _ _ _ _ e => e) (by simp [AV.ren, AV.ren1, AC.ren]) (by simp [AV.ok, AV.ok1, AC.ok]) hok
  by_cases e : i = j
  ·subst e; rw [List.getElem?_set_self hlt] at hj; injection hj with hj; subst hj; cases hl
  ·rw [List.getElem?_set_ne e] at hj
   show (H.set i (.row ty sz els false))[j]? = _
   rw [List.getElem?_set_ne e, hj, AObj.ren_id (σ := id) (n := H.length) (fun _ _ => rfl) (hH j o hj)]
 exact ⟨_, _, h1.trans h2, hk⟩
end Go.Proofs.YtagoolooikpabaaGreatDoor
namespace Go.Proofs.YtagoolooikpabaaGreatDoor
open Go Go.RowKit
set_option maxRecDepth 100000
set_option maxHeartbeats 1000000
variable {H : Hp} {K : AV → Hp → Prop}
end Go.Proofs.YtagoolooikpabaaGreatDoor
namespace Go.Proofs.YtagoolooikpabaaGreatDoor
open Go Go.RowKit
set_option maxRecDepth 100000
set_option maxHeartbeats 1000000
variable {H : Hp} {K : AV → Hp → Prop}
theorem errsGo_a (l : List Int) (hl : l.length ≤ 1000000) (hk : K (.c (.int .i64 (firstE l))) H) : ACalls Tryz.prog 12 [.c (.lst 1 (l.map encI))] H K := by
 refine acalls Tryz.func12 rfl (by kernel_rfl) (by simp (disch := first | omega | (simp only [go_sem]; try omega)) only [go_sem]) (fun hH => ?_)
 simp (disch := first | omega | (simp only [go_sem]; try omega)) only [go_sem]
 refine AWp.loop (H.length) [5, 6] [7] (fun (k : Nat) => k ≤ l.length ∧ firstE (l.drop k) = firstE l) (fun (k : Nat) => [(7, (.c (.int .i64 k)))]) (fun (k : Nat) => H) (fun (k : Nat) => l.length - k) (by kernel_rfl) (fun _ => rfl) (by kernel_rfl) (by first | (simp; done) | omega) (by first | (simp; done) | (simp; omega) | omega) kl ?_ (fun k hk1 _ _ => ?_)
 ·exact Next.mk 0 (by simp) wk
 ·simp (disch := first | omega | (simp only [go_sem]; try omega)) only [go_sem, *]
  repeat' (first | ((first | refine acond_d ?_ ?_ | refine acond_b ?_ ?_ | refine ag_d ?_ ?_ | refine ag_n ?_ ?_ | refine ag_bt ?_ ?_ | refine ag_bf ?_ ?_) <;> intro c <;> try simp (disch := first | omega | (simp only [go_sem]; try omega)) only [go_sem, c]) | ((first | refine w_draw (by kernel_rfl) (by decide +kernel) ?_) <;> try simp (disch := first | omega | (simp only [go_sem]; try omega)) only [go_sem]))
  ·have := firstE_drop l k (by omega)
   exact Next.mk (k + 1) ⟨⟨by omega, by grind⟩, by omega⟩ wk
  ·have := firstE_drop l k (by omega)
   (first | refine Ret.sameE (Nat.le_refl _) (by assumption) ?_ | refine Ret.dropE (by assumption) (Nat.le_refl _) (by assumption) (by simp [AV.ok, AV.ok1, AC.ok]) ?_) <;> (first | rfl | (simp only [AV.c.injEq, AC.bool.injEq]; rw [Bool.eq_iff_iff]; simp only [Bool.not_eq_true', decide_eq_true_eq, decide_eq_false_iff_not, Bool.and_eq_true, Bool.or_eq_true]; omega) | grind | (simp [*]; done) | (simp [*]; omega))
  ·have : l.drop k = [] := List.drop_eq_nil_of_le (by omega)
   have h0 : firstE l = 0 := by rw [← hk1.2, this]; rfl
   (first | refine Ret.sameE (Nat.le_refl _) (by assumption) ?_ | refine Ret.dropE (by assumption) (Nat.le_refl _) (by assumption) (by simp [AV.ok, AV.ok1, AC.ok]) ?_) <;> (first | rfl | (simp only [AV.c.injEq, AC.bool.injEq]; rw [Bool.eq_iff_iff]; simp only [Bool.not_eq_true', decide_eq_true_eq, decide_eq_false_iff_not, Bool.and_eq_true, Bool.or_eq_true]; omega) | grind | (simp [*]; done) | (simp [*]; omega))
theorem errs_lit (a b : Int) {i ty n : Nat} {els : List (List AC)} {own : Bool} (hi : H[i]? = some (.row ty 1 els own)) (he : els = [a, b].map encI) (hn : n = 2) (hk : K (.c (.int .i64 (firstE [a, b]))) (H.set i .dead)) : ACalls Tryz.prog 12 [.c (.sl (some (i, 0)) n)] H K := by
 subst he hn
 exact ACalls.lit hi (by simp [pureL, encI, AC.pure]) (args' := [.c (.lst 1 ([a, b].map encI))]) (by simp [AV.frz1, AC.frz]) (errsGo_a [a, b] (by simp) hk)
end Go.Proofs.YtagoolooikpabaaGreatDoor
