/- Series with their tags: what is wrong with them, in the program and in the document. Condition: names' sizes, lists not huge. -/
import Derived.Test.YtagoolooikpabaaGreatDoorHVGD
set_option linter.all false
namespace Go.Proofs.YtagoolooikpabaaGreatDoor
open Go Go.RowKit
set_option maxRecDepth 100000
set_option maxHeartbeats 1000000
variable {H : Hp} {K : AV → Hp → Prop}
structure Ser where
 tg : ByteArray
 l : List Smp
def encSr (x : Ser) : List AC := [.str x.tg, .lst 3 (x.l.map encS)]
attribute [go_sem] encSr
def srErr (i : Nat) (p x : Ser) : Int := if ¬isKey x.tg then 5 else if 0 < i ∧ leS x.tg p.tg = true then 7 else serF x.l
def ser0 : Ser := ⟨noS, []⟩
def slF (l : List Ser) : Int := if 200 < l.length then 2 else errGo srErr 0 ser0 l
def Ser.fine (x : Ser) : Prop := x.tg.size ≤ 1000 ∧ x.l.length ≤ 1000000000
theorem serListF_a (l : List Ser) (hlen : l.length ≤ 1099511627776) (hs : ∀ x ∈ l, x.fine) (hk : K (.c (.int .i64 (slF l))) H) : ACalls Tryz.prog 75 [.c (.lst 2 (l.map encSr))] H K := by
 by_cases h6 : 200 < l.length
 ·refine acalls Tryz.func75 rfl kRf gT (fun hH => ?_)
  refine gO ?_
  (first | refine Ret.sameE lRf (by assumption) ?_ | refine Ret.dropE (by assumption) lRf (by assumption) oKs ?_) <;> simp [slF, h6]
 have hF : slF l = errGo srErr 0 ser0 l := by simp [slF, h6]
 refine acalls Tryz.func75 rfl kRf gT (fun hH => ?_)
 refine gO ?_
 refine AWp.loop (H.length) [0, 9, 10] [11] (fun (k : Nat) => k ≤ l.length ∧ errGo srErr k (prv ser0 l k) (l.drop k) = errGo srErr 0 ser0 l) (fun (k : Nat) => [(11, (.c (.int .i64 k)))]) (fun (k : Nat) => H) (fun (k : Nat) => l.length - k) kRf (fun _ => rfl) kRf sOo sOm kl ?_ (fun k hk1 _ _ => ?_)
 ·exact Next.mk 0 ⟨by omega, rfl⟩ wk
 obtain ⟨hk1, hk2⟩ := hk1
 by_cases hlt : k < l.length
 ·have hst := errGo_step srErr ser0 l k hlt
  have hp : ∀ h : 0 < k, prv ser0 l k = l[((k : Int) - 1).toNat]'oMg := fun h => by rw [prv_pos _ _ _ hk1 h]; congr 1; omega
  have hv : srErr k (prv ser0 l k) l[k] ≠ 0 → srErr k (prv ser0 l k) l[k] = slF l := fun h => by rw [hF, ← hk2, hst, if_neg h]
  have hn : srErr k (prv ser0 l k) l[k] = 0 → errGo srErr (k + 1) (prv ser0 l (k + 1)) (l.drop (k + 1)) = errGo srErr 0 ser0 l := fun h => by rw [← hk2, hst, if_pos h]
  obtain ⟨f1, f2⟩ := hs l[k] (List.getElem_mem hlt)
  clear hst hF
  simp (disch := first | omega | (simp only [go_sem]; try omega)) only [go_sem, hlt]
  repeat' (first | ((first | refine acond_d ?_ ?_ | refine acond_b ?_ ?_ | refine ag_d ?_ ?_ | refine ag_n ?_ ?_ | refine ag_bt ?_ ?_ | refine ag_bf ?_ ?_) <;> intro c <;> try refine gO1 c ?_) | ((first | refine w_draw kRf dKn ?_ | refine key_a _ oMg ?_ | refine checkSeries_a _ oMg ?_) <;> try refine gO ?_))
  all_goals first
   | (refine Next.mk (k + 1) (by grind [srErr]) ?_; exact wk)
   | (first | refine Ret.sameE lRf (by assumption) ?_ | refine Ret.dropE (by assumption) lRf (by assumption) oKs ?_) <;> grind [srErr]
 ·refine gO1 hlt ?_
  have := errGo_end srErr (prv ser0 l k) l k oMg
  (first | refine Ret.sameE lRf (by assumption) ?_ | refine Ret.dropE (by assumption) lRf (by assumption) oKs ?_) <;> (first | rfl | (simp only [AV.c.injEq, AC.bool.injEq]; rw [Bool.eq_iff_iff]; simp only [Bool.not_eq_true', decide_eq_true_eq, decide_eq_false_iff_not, Bool.and_eq_true, Bool.or_eq_true]; omega) | grind | (simp [*]; done) | (simp [*]; omega))
theorem listFault_a (l : List Ser) (hlen : l.length ≤ 1099511627776) (hs : ∀ x ∈ l, x.fine) (hk : K (.c (.int .i64 (slF l))) H) : ACalls Tryz.prog 27 [.c (.lst 2 (l.map encSr))] H K := by
 by_cases h6 : 200 < l.length
 ·refine acalls Tryz.func27 rfl kRf gT (fun hH => ?_)
  refine gO ?_
  (first | refine Ret.sameE lRf (by assumption) ?_ | refine Ret.dropE (by assumption) lRf (by assumption) oKs ?_) <;> simp [slF, h6]
 have hF : slF l = errGo srErr 0 ser0 l := by simp [slF, h6]
 refine acalls Tryz.func27 rfl kRf gT (fun hH => ?_)
 refine gO ?_
 refine AWp.loop (H.length) [10, 11] [12, 3] (fun (k : Nat) => k ≤ l.length ∧ errGo srErr k (prv ser0 l k) (l.drop k) = errGo srErr 0 ser0 l) (fun (k : Nat) => [(12, (.c (.int .i64 k))), (3, (.c (.str ((prv ser0 l k).tg))))]) (fun (k : Nat) => H) (fun (k : Nat) => l.length - k) kRf (fun _ => rfl) kRf sOo sOm kl ?_ (fun k hk1 _ _ => ?_)
 ·exact Next.mk 0 ⟨by omega, rfl⟩ wk
 obtain ⟨hk1, hk2⟩ := hk1
 by_cases hlt : k < l.length
 ·have hst := errGo_step srErr ser0 l k hlt
  have hp : k = 0 → (prv ser0 l k).tg = noS := fun h => by subst h; rfl
  have hq : isKey l[k].tg → k = 0 → leS l[k].tg (prv ser0 l k).tg = false := fun h1 h2 => by rw [hp h2]; exact leS_no h1
  have hv : srErr k (prv ser0 l k) l[k] ≠ 0 → srErr k (prv ser0 l k) l[k] = slF l := fun h => by rw [hF, ← hk2, hst, if_neg h]
  have hn : srErr k (prv ser0 l k) l[k] = 0 → errGo srErr (k + 1) (prv ser0 l (k + 1)) (l.drop (k + 1)) = errGo srErr 0 ser0 l := fun h => by rw [← hk2, hst, if_pos h]
  obtain ⟨f1, f2⟩ := hs l[k] (List.getElem_mem hlt)
  have hnx : (prv ser0 l (k + 1)).tg = l[k].tg := by rw [prv_succ _ _ _ hlt]
  clear hst hF hp
  simp (disch := first | omega | (simp only [go_sem]; try omega)) only [go_sem, hlt]
  repeat' (first | ((first | refine acond_d ?_ ?_ | refine acond_b ?_ ?_ | refine ag_d ?_ ?_ | refine ag_n ?_ ?_ | refine ag_bt ?_ ?_ | refine ag_bf ?_ ?_) <;> intro c <;> try refine gO1 c ?_) | ((first | refine w_draw kRf dKn ?_ | refine keyR_a l[k].tg oMg ?_ | refine seriesFault_a _ oMg ?_) <;> try refine gO ?_))
  all_goals first
   | (refine Next.mk (k + 1) (by grind [srErr]) ?_; rw [hnx]; exact wk)
   | (first | refine Ret.sameE lRf (by assumption) ?_ | refine Ret.dropE (by assumption) lRf (by assumption) oKs ?_) <;> grind [srErr]
 ·refine gO1 hlt ?_
  have := errGo_end srErr (prv ser0 l k) l k oMg
  (first | refine Ret.sameE lRf (by assumption) ?_ | refine Ret.dropE (by assumption) lRf (by assumption) oKs ?_) <;> (first | rfl | (simp only [AV.c.injEq, AC.bool.injEq]; rw [Bool.eq_iff_iff]; simp only [Bool.not_eq_true', decide_eq_true_eq, decide_eq_false_iff_not, Bool.and_eq_true, Bool.or_eq_true]; omega) | grind | (simp [*]; done) | (simp [*]; omega))
theorem errGo_eachS {α : Type} (f : Nat → α → α → Int) (p0 : α) (l : List α) (h : errGo f 0 p0 l = 0) : ∀ k (hk : k < l.length), f k (prv p0 l k) l[k] = 0 := by
 have key : ∀ k, k ≤ l.length → errGo f k (prv p0 l k) (l.drop k) = 0 := by
  intro k
  induction k with
  | zero => intro _; exact h
  | succ k ih =>
   intro hk
   have h1 := ih oMg
   rw [errGo_step f p0 l k oMg] at h1
   split at h1
   ·exact h1
   ·rename_i h2; exact absurd h1 h2
 intro k hk
 have h1 := key k oMg
 rw [errGo_step f p0 l k hk] at h1
 split at h1
 ·assumption
 ·exact h1
theorem slF_ok {l : List Ser} (h : slF l = 0) : l.length ≤ 200 ∧ (∀ x ∈ l, serF x.l = 0 ∧ isKey x.tg) ∧ ∀ (i j : Nat) (hj : j < l.length) (hij : i < j), ordS (l[i]'oMg).tg l[j].tg < 0 := by
 unfold slF at h
 split at h
 ·cases h
 ·have hall := errGo_eachS srErr ser0 l h
  have key : ∀ k (hk : k < l.length), isKey l[k].tg ∧ (∀ hk0 : 0 < k, ordS (l[k - 1]'oMg).tg l[k].tg < 0) ∧ serF l[k].l = 0 := fun k hk => by
   have h1 := hall k hk
   unfold srErr at h1
   split at h1
   ·cases h1
   ·rename_i hkey
    split at h1
    ·cases h1
    ·rename_i h2
     refine ⟨Decidable.not_not.1 hkey, fun hk0 => ?_, h1⟩
     have hpv : prv ser0 l k = l[k - 1]'oMg := prv_pos _ _ _ oMg hk0
     rw [hpv, leS_ord, decide_eq_true_eq] at h2
     have := ordS_flip l[k].tg (l[k - 1]'oMg).tg
     omega
  refine ⟨by omega, fun x hx => ?_, fun i j hj hij => ?_⟩
  ·obtain ⟨k, hk, rfl⟩ := List.getElem_of_mem hx
   exact ⟨(key k hk).2.2, (key k hk).1⟩
  ·obtain ⟨d, rfl⟩ : ∃ d, j = i + 1 + d := ⟨j - (i + 1), by omega⟩
   have key2 : ∀ d (hj : i + 1 + d < l.length), ordS (l[i]'oMg).tg l[i + 1 + d].tg < 0 := by
    intro d
    induction d with
    | zero => exact fun hj => (key (i + 1) hj).2.1 oMg
    | succ d ih =>
    intro hj
    have h1 := ih oMg
    have h2 := (key (i + 1 + (d + 1)) hj).2.1 oMg
    exact ordS_trans h1 h2
   exact key2 d hj
theorem smp_ok2 {l : List Smp} (h : serF l = 0) : ∀ x ∈ l, (0 ≤ x.t ∧ x.t ≤ 345686399999) ∧ (-1000000 ≤ x.v ∧ x.v ≤ 1000000) ∧ (0 ≤ x.q ∧ x.q ≤ 2) ∧ (x.q = 2 → x.v = 0) := by
 unfold serF at h
 split at h
 ·cases h
 ·intro x hx
  have hall := errGo_eachS serErr ⟨0, 0, 0⟩ l h
  obtain ⟨k, hk, rfl⟩ := List.getElem_of_mem hx
  have h1 := hall k hk
  unfold serErr at h1
  have h2 : smpErr l[k] = 0 := by
   by_cases h2 : smpErr l[k] = 0
   ·exact h2
   ·rw [if_pos h2] at h1; exact absurd h1 h2
  unfold smpErr at h2
  repeat' split at h2
  all_goals first | omega | (refine ⟨by omega, by omega, by omega, fun e => ?_⟩; omega)
end Go.Proofs.YtagoolooikpabaaGreatDoor
