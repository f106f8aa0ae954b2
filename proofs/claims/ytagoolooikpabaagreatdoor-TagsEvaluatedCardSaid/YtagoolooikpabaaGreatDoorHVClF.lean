/- What is wrong with calculated tags, in the program and in the document. Condition: names' sizes, lists not huge. -/
import Derived.Test.YtagoolooikpabaaGreatDoorHVCal
import Derived.Test.YtagoolooikpabaaGreatDoorHVSer
import Derived.Test.YtagoolooikpabaaGreatDoorHVQrsB
set_option linter.all false
namespace Go.Proofs.YtagoolooikpabaaGreatDoor
open Go Go.RowKit
set_option maxRecDepth 100000
set_option maxHeartbeats 2000000
variable {H : Hp} {K : AV → Hp → Prop}
def clName (t : ByteArray) : Prop := isKey t ∧ Lib.contains (tL t) [45] = false ∧ fnN (tL t) = 0
instance (t : ByteArray) : Decidable (clName t) := by unfold clName; infer_instance
def clErr (k : Nat) (p x : Cal) : Int := if ¬clName x.tg then 5 else if 0 < k ∧ leS x.tg p.tg = true then 7 else (chkF (tL x.ex)).2
def cal0 : Cal := ⟨noS, noS⟩
def clF (l : List Cal) : Int := if 100 < l.length then 2 else errGo clErr 0 cal0 l
def Cal.fine (x : Cal) : Prop := x.tg.size ≤ 1000 ∧ x.ex.size ≤ 1000000
theorem name_a (s : ByteArray) (hs : s.size ≤ 1000) (hk : K (.c (.bool (decide (clName s)))) H) : ACalls Tryz.prog 69 [(.c (.str s))] H K := by
 by_cases h1 : isKey s
 ·cases h2 : Lib.contains (tL s) [45] with
  | true =>
   rw [decide_eq_false (fun h : clName s => by have := h.2.1; rw [h2] at this; cases this)] at hk
   refine acalls Tryz.func69 rfl kRf gT (fun hH => ?_)
   refine gO ?_
   refine key_a s oMg ?_
   refine gO1 h1 ?_
   refine contains_a s ⟨#[45]⟩ oMg ?_
   rw [show tL ⟨#[45]⟩ = [45] from rfl, h2]
   refine gO ?_
   exact Ret.same lRf hk
  | false =>
   have e : decide (clName s) = decide (((fnN (tL s) : Nat) : Int) = 0) := decide_eq_decide.2 ⟨fun h => by have := h.2.2; omega, fun h => ⟨h1, h2, by omega⟩⟩
   rw [e] at hk
   refine acalls Tryz.func69 rfl kRf gT (fun hH => ?_)
   refine gO ?_
   refine key_a s oMg ?_
   refine gO1 h1 ?_
   refine contains_a s ⟨#[45]⟩ oMg ?_
   rw [show tL ⟨#[45]⟩ = [45] from rfl, h2]
   refine gO ?_
   refine operands_a (tL s) ?_
   refine gO ?_
   exact Ret.same lRf hk
 ·rw [decide_eq_false (fun h : clName s => h1 h.1)] at hk
  refine acalls Tryz.func69 rfl kRf gT (fun hH => ?_)
  refine gO ?_
  refine key_a s oMg ?_
  refine gO1 h1 ?_
  exact Ret.same lRf hk
theorem checkCalcs_a (l : List Cal) (hlen : l.length ≤ 1099511627776) (hs : ∀ x ∈ l, x.fine) (hk : K (.c (.int .i64 (clF l))) H) : ACalls Tryz.prog 17 [.c (.lst 2 (l.map encCl))] H K := by
 by_cases h6 : 100 < l.length
 ·refine acalls Tryz.func17 rfl kRf gT (fun hH => ?_)
  refine gO ?_
  (first | refine Ret.sameE lRf (by assumption) ?_ | refine Ret.dropE (by assumption) lRf (by assumption) oKs ?_) <;> simp [clF, h6]
 have hF : clF l = errGo clErr 0 cal0 l := by simp [clF, h6]
 refine acalls Tryz.func17 rfl kRf gT (fun hH => ?_)
 refine gO ?_
 refine AWp.loop (H.length) [0, 10, 11] [12] (fun (k : Nat) => k ≤ l.length ∧ errGo clErr k (prv cal0 l k) (l.drop k) = errGo clErr 0 cal0 l) (fun (k : Nat) => [(12, (.c (.int .i64 k)))]) (fun (k : Nat) => H) (fun (k : Nat) => l.length - k) kRf (fun _ => rfl) kRf sOo sOm kl ?_ (fun k hk1 _ _ => ?_)
 ·exact Next.mk 0 ⟨by omega, rfl⟩ wk
 obtain ⟨hk1, hk2⟩ := hk1
 by_cases hlt : k < l.length
 ·have hst := errGo_step clErr cal0 l k hlt
  have hp : ∀ h : 0 < k, prv cal0 l k = l[((k : Int) - 1).toNat]'oMg := fun h => by rw [prv_pos _ _ _ hk1 h]; congr 1; omega
  have hv : clErr k (prv cal0 l k) l[k] ≠ 0 → clErr k (prv cal0 l k) l[k] = clF l := fun h => by rw [hF, ← hk2, hst, if_neg h]
  have hn : clErr k (prv cal0 l k) l[k] = 0 → errGo clErr (k + 1) (prv cal0 l (k + 1)) (l.drop (k + 1)) = errGo clErr 0 cal0 l := fun h => by rw [← hk2, hst, if_pos h]
  obtain ⟨f1, f2⟩ := hs l[k] (List.getElem_mem hlt)
  have f3 : (tL l[k].ex).length ≤ 1000000 := f2
  clear hst hF
  simp (disch := first | omega | (simp only [go_sem]; try omega)) only [go_sem, hlt]
  repeat' (first | ((first | refine acond_d ?_ ?_ | refine acond_b ?_ ?_ | refine ag_d ?_ ?_ | refine ag_n ?_ ?_ | refine ag_bt ?_ ?_ | refine ag_bf ?_ ?_) <;> intro c <;> try refine gO1 c ?_) | ((first | refine w_draw kRf dKn ?_ | refine name_a _ oMg ?_ | refine check_a (tL l[k].ex) oMg ?_) <;> try refine gO ?_))
  all_goals first
   | (refine Next.mk (k + 1) (by grind [clErr]) ?_; exact wk)
   | (first | refine Ret.sameE lRf (by assumption) ?_ | refine Ret.dropE (by assumption) lRf (by assumption) oKs ?_) <;> grind [clErr]
 ·refine gO1 hlt ?_
  have := errGo_end clErr (prv cal0 l k) l k oMg
  (first | refine Ret.sameE lRf (by assumption) ?_ | refine Ret.dropE (by assumption) lRf (by assumption) oKs ?_) <;> (first | rfl | (simp only [AV.c.injEq, AC.bool.injEq]; rw [Bool.eq_iff_iff]; simp only [Bool.not_eq_true', decide_eq_true_eq, decide_eq_false_iff_not, Bool.and_eq_true, Bool.or_eq_true]; omega) | grind | (simp [*]; done) | (simp [*]; omega))
theorem calcsFault_a (l : List Cal) (hlen : l.length ≤ 1099511627776) (hs : ∀ x ∈ l, x.fine) (hk : K (.c (.int .i64 (clF l))) H) : ACalls Tryz.prog 11 [.c (.lst 2 (l.map encCl))] H K := by
 by_cases h6 : 100 < l.length
 ·refine acalls Tryz.func11 rfl kRf gT (fun hH => ?_)
  refine gO ?_
  (first | refine Ret.sameE lRf (by assumption) ?_ | refine Ret.dropE (by assumption) lRf (by assumption) oKs ?_) <;> simp [clF, h6]
 have hF : clF l = errGo clErr 0 cal0 l := by simp [clF, h6]
 refine acalls Tryz.func11 rfl kRf gT (fun hH => ?_)
 refine gO ?_
 refine AWp.loop (H.length) [11, 12] [13, 3] (fun (k : Nat) => k ≤ l.length ∧ errGo clErr k (prv cal0 l k) (l.drop k) = errGo clErr 0 cal0 l) (fun (k : Nat) => [(13, (.c (.int .i64 k))), (3, (.c (.str ((prv cal0 l k).tg))))]) (fun (k : Nat) => H) (fun (k : Nat) => l.length - k) kRf (fun _ => rfl) kRf sOo sOm kl ?_ (fun k hk1 _ _ => ?_)
 ·exact Next.mk 0 ⟨by omega, rfl⟩ wk
 obtain ⟨hk1, hk2⟩ := hk1
 by_cases hlt : k < l.length
 ·have hst := errGo_step clErr cal0 l k hlt
  have hp : k = 0 → (prv cal0 l k).tg = noS := fun h => by subst h; rfl
  have hq : isKey l[k].tg → k = 0 → leS l[k].tg (prv cal0 l k).tg = false := fun h1 h2 => by rw [hp h2]; exact leS_no h1
  have hv : clErr k (prv cal0 l k) l[k] ≠ 0 → clErr k (prv cal0 l k) l[k] = clF l := fun h => by rw [hF, ← hk2, hst, if_neg h]
  have hn : clErr k (prv cal0 l k) l[k] = 0 → errGo clErr (k + 1) (prv cal0 l (k + 1)) (l.drop (k + 1)) = errGo clErr 0 cal0 l := fun h => by rw [← hk2, hst, if_pos h]
  obtain ⟨f1, f2⟩ := hs l[k] (List.getElem_mem hlt)
  have f3 : (tL l[k].ex).length ≤ 1000000 := f2
  have hnx : (prv cal0 l (k + 1)).tg = l[k].tg := by rw [prv_succ _ _ _ hlt]
  have hc : ∀ {G : Hp} {J : AV → Hp → Prop}, J (.c (.bool (decide (Lib.contains (tL l[k].tg) [45] = true)))) G → ACalls Tryz.prog 58 [(.c (.str (l[k].tg))), (.c (.str (⟨#[45]⟩)))] G J := fun h => contains_a _ ⟨#[45]⟩ oMg (by rw [Bool.decide_eq_true] at h; exact h)
  clear hst hF hp
  simp (disch := first | omega | (simp only [go_sem]; try omega)) only [go_sem, hlt]
  repeat' (first | ((first | refine acond_d ?_ ?_ | refine acond_b ?_ ?_ | refine ag_d ?_ ?_ | refine ag_n ?_ ?_ | refine ag_bt ?_ ?_ | refine ag_bf ?_ ?_) <;> intro c <;> try refine gO1 c ?_) | ((first | refine w_draw kRf dKn ?_ | refine keyR_a l[k].tg oMg ?_ | refine hc ?_ | refine functionQ_a (tL l[k].tg) ?_ | refine checkOf_a (tL l[k].ex) oMg ?_) <;> try refine gO ?_))
  all_goals first
   | (refine Next.mk (k + 1) (by grind [clErr, clName]) ?_; rw [hnx]; exact wk)
   | (first | refine Ret.sameE lRf (by assumption) ?_ | refine Ret.dropE (by assumption) lRf (by assumption) oKs ?_) <;> grind [clErr, clName]
 ·refine gO1 hlt ?_
  have := errGo_end clErr (prv cal0 l k) l k oMg
  (first | refine Ret.sameE lRf (by assumption) ?_ | refine Ret.dropE (by assumption) lRf (by assumption) oKs ?_) <;> (first | rfl | (simp only [AV.c.injEq, AC.bool.injEq]; rw [Bool.eq_iff_iff]; simp only [Bool.not_eq_true', decide_eq_true_eq, decide_eq_false_iff_not, Bool.and_eq_true, Bool.or_eq_true]; omega) | grind | (simp [*]; done) | (simp [*]; omega))
end Go.Proofs.YtagoolooikpabaaGreatDoor
