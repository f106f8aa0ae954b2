/- Several texts in one: Samples and series: their faults, in the program and in the document's answer, and what follows. No condition. -/
import Derived.Test.YtagoolooikpabaaGreatDoorHTypes
set_option linter.all false
namespace Go.Proofs.YtagoolooikpabaaGreatDoor
open Go Go.RowKit
set_option maxRecDepth 100000
set_option maxHeartbeats 1000000
variable {H : Hp} {K : AV → Hp → Prop}
structure Smp where
 t : Int
 v : Int
 q : Int
deriving DecidableEq
def encS (x : Smp) : List AC := [.int .i64 x.t, .int .i64 x.v, .int .i64 x.q]
attribute [go_sem, simp] encS
def smpErr (x : Smp) : Int := if x.t < 0 ∨ 345686399999 < x.t then 1 else if x.q < 0 ∨ 2 < x.q then 4 else if x.v < -1000000 ∨ 1000000 < x.v then 1 else if x.q = 2 ∧ x.v ≠ 0 then 3 else 0
theorem checkSample_a (x : Smp) (hk : K (.c (.int .i64 (smpErr x))) H) : ACalls Tryz.prog 177 [.agg (encS x)] H K := by
 refine acalls Tryz.func177 rfl kRf gT (fun hH => ?_)
 refine gO ?_
 repeat' (first | ((first | refine acond_d ?_ ?_ | refine acond_b ?_ ?_ | refine ag_d ?_ ?_ | refine ag_n ?_ ?_ | refine ag_bt ?_ ?_ | refine ag_bf ?_ ?_) <;> intro c <;> try refine gO1 c ?_) | ((first | refine w_draw kRf dKn ?_ | refine moment_a _ _ _ ?_ | refine out_a _ _ _ _ _ ?_) <;> try refine gO ?_))
 all_goals (first | refine Ret.sameE lRf (by assumption) ?_ | refine Ret.dropE (by assumption) lRf (by assumption) oKs ?_) <;> grind [smpErr]
theorem sampleFault_a (x : Smp) (hk : K (.c (.int .i64 (smpErr x))) H) : ACalls Tryz.prog 133 [.agg (encS x)] H K := by
 refine acalls Tryz.func133 rfl kRf gT (fun hH => ?_)
 refine gO ?_
 repeat' (first | ((first | refine acond_d ?_ ?_ | refine acond_b ?_ ?_ | refine ag_d ?_ ?_ | refine ag_n ?_ ?_ | refine ag_bt ?_ ?_ | refine ag_bf ?_ ?_) <;> intro c <;> try refine gO1 c ?_) | ((first | refine w_draw kRf dKn ?_ | refine momentR_a _ _ _ ?_ | refine in_a _ _ _ _ _ ?_) <;> try refine gO ?_))
 all_goals (first | refine Ret.sameE lRf (by assumption) ?_ | refine Ret.dropE (by assumption) lRf (by assumption) oKs ?_) <;> grind [smpErr]
def serErr (i : Nat) (p x : Smp) : Int := if smpErr x ≠ 0 then smpErr x else if 0 < i ∧ x.t ≤ p.t then 7 else 0
def serF (l : List Smp) : Int := if 5000 < l.length then 2 else errGo serErr 0 ⟨0, 0, 0⟩ l
theorem checkSeries_a (l : List Smp) (hlen : l.length ≤ 1099511627776) (hk : K (.c (.int .i64 (serF l))) H) : ACalls Tryz.prog 123 [.c (.lst 3 (l.map encS))] H K := by
 by_cases h6 : 5000 < l.length
 ·refine acalls Tryz.func123 rfl kRf gT (fun hH => ?_)
  refine gO ?_
  (first | refine Ret.sameE lRf (by assumption) ?_ | refine Ret.dropE (by assumption) lRf (by assumption) oKs ?_) <;> simp [serF, h6]
 have hF : serF l = errGo serErr 0 ⟨0, 0, 0⟩ l := by simp [serF, h6]
 refine acalls Tryz.func123 rfl kRf gT (fun hH => ?_)
 refine gO ?_
 refine AWp.loop (H.length) [0, 9, 10] [11] (fun (k : Nat) => k ≤ l.length ∧ errGo serErr k (prv ⟨0, 0, 0⟩ l k) (l.drop k) = errGo serErr 0 ⟨0, 0, 0⟩ l) (fun (k : Nat) => [(11, (.c (.int .i64 k)))]) (fun (k : Nat) => H) (fun (k : Nat) => l.length - k) kRf (fun _ => rfl) kRf sOo sOm kl ?_ (fun k hk1 _ _ => ?_)
 ·exact Next.mk 0 ⟨by omega, rfl⟩ wk
 obtain ⟨hk1, hk2⟩ := hk1
 by_cases hlt : k < l.length
 ·have hs := errGo_step serErr ⟨0, 0, 0⟩ l k hlt
  have hp : ∀ h : 0 < k, prv ⟨0, 0, 0⟩ l k = l[((k : Int) - 1).toNat]'oMg := fun h => by rw [prv_pos _ _ _ hk1 h]; congr 1; omega
  have hv : serErr k (prv ⟨0, 0, 0⟩ l k) l[k] ≠ 0 → serErr k (prv ⟨0, 0, 0⟩ l k) l[k] = serF l := fun h => by rw [hF, ← hk2, hs, if_neg h]
  have hn : serErr k (prv ⟨0, 0, 0⟩ l k) l[k] = 0 → errGo serErr (k + 1) (prv ⟨0, 0, 0⟩ l (k + 1)) (l.drop (k + 1)) = errGo serErr 0 ⟨0, 0, 0⟩ l := fun h => by rw [← hk2, hs, if_pos h]
  clear hs hF
  simp (disch := first | omega | (simp only [go_sem]; try omega)) only [go_sem, hlt]
  repeat' (first | ((first | refine acond_d ?_ ?_ | refine acond_b ?_ ?_ | refine ag_d ?_ ?_ | refine ag_n ?_ ?_ | refine ag_bt ?_ ?_ | refine ag_bf ?_ ?_) <;> intro c <;> try refine gO1 c ?_) | ((first | refine w_draw kRf dKn ?_ | refine checkSample_a _ ?_) <;> try refine gO ?_))
  all_goals first
   | (refine Next.mk (k + 1) (by grind [serErr]) ?_; exact wk)
   | (first | refine Ret.sameE lRf (by assumption) ?_ | refine Ret.dropE (by assumption) lRf (by assumption) oKs ?_) <;> grind [serErr]
 ·refine gO1 hlt ?_
  have := errGo_end serErr (prv ⟨0, 0, 0⟩ l k) l k oMg
  (first | refine Ret.sameE lRf (by assumption) ?_ | refine Ret.dropE (by assumption) lRf (by assumption) oKs ?_) <;> (first | rfl | (simp only [AV.c.injEq, AC.bool.injEq]; rw [Bool.eq_iff_iff]; simp only [Bool.not_eq_true', decide_eq_true_eq, decide_eq_false_iff_not, Bool.and_eq_true, Bool.or_eq_true]; omega) | grind | (simp [*]; done) | (simp [*]; omega))
theorem seriesFault_a (l : List Smp) (hlen : l.length ≤ 1099511627776) (hk : K (.c (.int .i64 (serF l))) H) : ACalls Tryz.prog 82 [.c (.lst 3 (l.map encS))] H K := by
 by_cases h6 : 5000 < l.length
 ·refine acalls Tryz.func82 rfl kRf gT (fun hH => ?_)
  refine gO ?_
  (first | refine Ret.sameE lRf (by assumption) ?_ | refine Ret.dropE (by assumption) lRf (by assumption) oKs ?_) <;> simp [serF, h6]
 have hF : serF l = errGo serErr 0 ⟨0, 0, 0⟩ l := by simp [serF, h6]
 refine acalls Tryz.func82 rfl kRf gT (fun hH => ?_)
 refine gO ?_
 refine AWp.loop (H.length) [0, 9, 10] [11] (fun (k : Nat) => k ≤ l.length ∧ errGo serErr k (prv ⟨0, 0, 0⟩ l k) (l.drop k) = errGo serErr 0 ⟨0, 0, 0⟩ l) (fun (k : Nat) => [(11, (.c (.int .i64 k)))]) (fun (k : Nat) => H) (fun (k : Nat) => l.length - k) kRf (fun _ => rfl) kRf sOo sOm kl ?_ (fun k hk1 _ _ => ?_)
 ·exact Next.mk 0 ⟨by omega, rfl⟩ wk
 obtain ⟨hk1, hk2⟩ := hk1
 by_cases hlt : k < l.length
 ·have hs := errGo_step serErr ⟨0, 0, 0⟩ l k hlt
  have hp : ∀ h : 0 < k, prv ⟨0, 0, 0⟩ l k = l[((k : Int) - 1).toNat]'oMg := fun h => by rw [prv_pos _ _ _ hk1 h]; congr 1; omega
  have hv : serErr k (prv ⟨0, 0, 0⟩ l k) l[k] ≠ 0 → serErr k (prv ⟨0, 0, 0⟩ l k) l[k] = serF l := fun h => by rw [hF, ← hk2, hs, if_neg h]
  have hn : serErr k (prv ⟨0, 0, 0⟩ l k) l[k] = 0 → errGo serErr (k + 1) (prv ⟨0, 0, 0⟩ l (k + 1)) (l.drop (k + 1)) = errGo serErr 0 ⟨0, 0, 0⟩ l := fun h => by rw [← hk2, hs, if_pos h]
  clear hs hF
  simp (disch := first | omega | (simp only [go_sem]; try omega)) only [go_sem, hlt]
  repeat' (first | ((first | refine acond_d ?_ ?_ | refine acond_b ?_ ?_ | refine ag_d ?_ ?_ | refine ag_n ?_ ?_ | refine ag_bt ?_ ?_ | refine ag_bf ?_ ?_) <;> intro c <;> try refine gO1 c ?_) | ((first | refine w_draw kRf dKn ?_ | refine sampleFault_a _ ?_) <;> try refine gO ?_))
  all_goals first
   | (refine Next.mk (k + 1) (by grind [serErr]) ?_; exact wk)
   | (first | refine Ret.sameE lRf (by assumption) ?_ | refine Ret.dropE (by assumption) lRf (by assumption) oKs ?_) <;> grind [serErr]
 ·refine gO1 hlt ?_
  have := errGo_end serErr (prv ⟨0, 0, 0⟩ l k) l k oMg
  (first | refine Ret.sameE lRf (by assumption) ?_ | refine Ret.dropE (by assumption) lRf (by assumption) oKs ?_) <;> (first | rfl | (simp only [AV.c.injEq, AC.bool.injEq]; rw [Bool.eq_iff_iff]; simp only [Bool.not_eq_true', decide_eq_true_eq, decide_eq_false_iff_not, Bool.and_eq_true, Bool.or_eq_true]; omega) | grind | (simp [*]; done) | (simp [*]; omega))
end Go.Proofs.YtagoolooikpabaaGreatDoor
namespace Go.Proofs.YtagoolooikpabaaGreatDoor
open Go Go.RowKit
set_option maxRecDepth 100000
set_option maxHeartbeats 1000000
variable {H : Hp} {K : AV → Hp → Prop}
theorem Ret.frzDead {ty sz n m i : Nat} {els : List (List AC)} {own : Bool} (hi : H[i]? = some (.row ty sz els own)) (hp : pureL els = true) (hm : m ≤ els.length) (hn : n ≤ H.length) (hk : K (.c (.lst sz (els.take m))) (H.set i .dead)) : Ret n (.c (.sl (some (i, 0)) m)) H K := by
 intro hH hv
 have hlt := getElem?_lt hi
 have h1 := WkL.frz (m := n) (vs := [.c (.sl (some (i, 0)) m)]) hi hp hn
 have e1 : [AV.c (AC.sl (some (i, 0)) m)].map (AV.frz i sz els) = [.c (.lst sz (els.take m))] := by simp [AV.frz, AV.frz1, AC.frz, hm]
 rw [e1] at h1
 have hok : HOk (H.set i .dead) := HOk.set hH trivial
 have h2 : WkL n [.c (.lst sz (els.take m))] (H.set i (.row ty sz els false)) [.c (.lst sz (els.take m))] (H.set i .dead) := by
  refine WkL.renL id (fun _ _ => rfl) (by simpa using hn) (fun j o hj hl => ?_) (fun j k _ _ _ _ _ _ e => e) (by simp [AV.ren, AV.ren1, AC.ren]) oKs hok
  by_cases e : i = j
  ·subst e; rw [List.getElem?_set_self hlt] at hj; injection hj with hj; subst hj; cases hl
  ·rw [List.getElem?_set_ne e] at hj
   show (H.set i (.row ty sz els false))[j]? = _
   rw [List.getElem?_set_ne e, hj, AObj.ren_id (σ := id) (n := H.length) (fun _ _ => rfl) (hH j o hj)]
 exact ⟨_, _, h1.trans h2, hk⟩
end Go.Proofs.YtagoolooikpabaaGreatDoor
namespace Go.Proofs.YtagoolooikpabaaGreatDoor
open Go Go.RowKit
set_option maxRecDepth 100000
set_option maxHeartbeats 1000000
variable {H : Hp} {K : AV → Hp → Prop}
def Smp.small (x : Smp) : Prop := 0 ≤ x.t ∧ x.t ≤ 345686399999 ∧ -1000000 ≤ x.v ∧ x.v ≤ 1000000
end Go.Proofs.YtagoolooikpabaaGreatDoor
namespace Go.Proofs.YtagoolooikpabaaGreatDoor
open Go Go.RowKit
set_option maxRecDepth 100000
set_option maxHeartbeats 1000000
variable {H : Hp} {K : AV → Hp → Prop}
theorem oneSample_a (s : Nat) (zs : List Int) (j : Int) (hs : Str H s zs j) (hj : j ≤ 1099000000000)
  (hk : ∀ (x : Smp), (-1 ≤ x.t ∧ x.t ≤ 345686400000) → (-9223372036854775808 ≤ x.v ∧ x.v ≤ 4611686018427387904) → (-1 ≤ x.q ∧ x.q ≤ 3) → K (.agg (encS x)) (H.set s (strO zs (j + 1 + 1 + 1)))) : ACalls Tryz.prog 121 [.c (.ptr (some (s, 0, 0)))] H K := by
 have hlt := hs.lt
 have hpos := hs.pos
 have hne : H.length ≠ s := by omega
 refine acalls Tryz.func121 rfl kRf gT (fun hH => ?_)
 refine gO ?_
 refine pick_lit s zs j [0, 50, 345686399999, 345686400000, -1] aTT rfl rfl (by first | exact hs | exact hs.app _ | exact hs.set oMg oMg | exact (hs.set oMg oMg).app _) oMg sMp sMp (fun a ha => ?_)
 refine gO ?_
 refine pick_lit s zs (j + 1) [0, 1, 1000000, -1000000, 1000001, -1000001, 4611686018427387904, -9223372036854775808] aTT rfl rfl (by first | exact hs | exact hs.app _ | exact hs.set oMg oMg | exact (hs.set oMg oMg).app _) oMg sMp sMp (fun b hb => ?_)
 refine gO ?_
 refine pick_lit s zs (j + 1 + 1) [0, 1, 2, 3, -1] aTT rfl rfl (by first | exact hs | exact hs.app _ | exact hs.set oMg oMg | exact (hs.set oMg oMg).app _) oMg sMp sMp (fun c hc => ?_)
 simp only [List.mem_cons, List.not_mem_nil, or_false] at ha hb hc
 refine gO ?_
 have := hk ⟨a, b, c⟩ (by dsimp only; omega) (by dsimp only; omega) (by dsimp only; omega)
 exact Ret.drop (HOk.str hH) sMp oKs this
def drawnS (most : Int) (l : List Smp) : Prop := serF l = 0 ∧ l.length ≤ most ∧ ∀ x ∈ l, 0 ≤ x.t ∧ x.t ≤ 90 + 60 * most ∧ -3 ≤ x.v ∧ x.v ≤ 100 ∧ 0 ≤ x.q ∧ x.q ≤ 2
theorem rightSamples_o (s : Nat) (zs : List Int) (j most : Int) (hs : Str H s zs j) (hj : j ≤ 1090000000000) (hm0 : 0 ≤ most) (hm1 : most ≤ 100)
  (hk : ∀ (l : List Smp) (j' : Int), j ≤ j' → j' ≤ j + 2 + 3 * most → drawnS most l → K (.c (grV H.length l)) (H.set s (strO zs j') ++ [grO 99 3 (l.map encS)])) :
  ACalls Tryz.prog 72 [.c (.ptr (some (s, 0, 0))), (.c (.int .i64 most))] H K := by
 have hlt := hs.lt
 have hpos := hs.pos
 have hne : H.length ≠ s := by omega
 refine acalls Tryz.func72 rfl kRf gT (fun hH => ?_)
 refine gO ?_
 refine pick_lit s zs j [0, 5, 90] aTT rfl rfl (by first | exact hs | exact hs.app _ | exact hs.set oMg oMg | exact (hs.set oMg oMg).app _) oMg sMp sMp (fun a0 ha0 => ?_)
 simp only [List.mem_cons, List.not_mem_nil, or_false] at ha0
 refine gO ?_
 refine range_a s zs (j + 1) 0 most (by first | exact hs | exact hs.app _ | exact hs.set oMg oMg | exact (hs.set oMg oMg).app _) oMg oMg oMg (fun r hr0 hr1 => ?_)
 refine gO ?_
 refine AWp.loop (H.length) [0, 13] [14, 5, 6] (fun (q : Nat × List Smp × Int × Int) => (q.1 : Int) ≤ r ∧ q.2.1.length = q.1 ∧ errGo serErr 0 ⟨0, 0, 0⟩ q.2.1 = 0 ∧ (∀ x ∈ q.2.1, 0 ≤ x.t ∧ x.t < q.2.2.1 ∧ -3 ≤ x.v ∧ x.v ≤ 100 ∧ 0 ≤ x.q ∧ x.q ≤ 2) ∧ 0 ≤ q.2.2.1 ∧ q.2.2.1 ≤ 90 + 60 * q.1 ∧ j + 2 ≤ q.2.2.2 ∧ q.2.2.2 ≤ j + 2 + 3 * q.1) (fun (q : Nat × List Smp × Int × Int) => [(14, (.c (.int .i64 (q.1)))), (5, .c (grV H.length q.2.1)), (6, (.c (.int .i64 (q.2.2.1))))]) (fun (q : Nat × List Smp × Int × Int) => H.set s (strO zs q.2.2.2) ++ [grO 99 3 (q.2.1.map encS)]) (fun (q : Nat × List Smp × Int × Int) => r.toNat - q.1) kRf (fun _ => rfl) kRf sOo sOm kl ?_ (fun q hq _ _ => ?_)
 ·refine Next.mk (0, [], a0, j + 1 + 1) ⟨by simpa using hr0, rfl, rfl, by simp, by dsimp only; omega, by dsimp only; omega, by dsimp only; omega, by dsimp only; omega⟩ ?_
  refine gO ?_
  exact WkL.refl sMp
 obtain ⟨k, l, t, j2⟩ := q
 obtain ⟨q1, q2, q3, q4, q5, q6, q7, q8⟩ := hq
 dsimp only at q1 q2 q3 q4 q5 q6 q7 q8
 by_cases hkr : (k : Int) < r
 ·refine gO ?_
  refine pick_lit s zs j2 [5, 5, 7, 7, -3, 100, 0] aTT rfl rfl (by first | exact hs | exact hs.app _ | exact hs.set oMg oMg | exact (hs.set oMg oMg).app _) oMg sMp sMp (fun v hv => ?_)
  simp only [List.mem_cons, List.not_mem_nil, or_false] at hv
  refine gO ?_
  refine pick_lit s zs (j2 + 1) [0, 0, 0, 1, 2] aTT rfl rfl (by first | exact hs | exact hs.app _ | exact hs.set oMg oMg | exact (hs.set oMg oMg).app _) oMg sMp sMp (fun u hu => ?_)
  simp only [List.mem_cons, List.not_mem_nil, or_false] at hu
  refine gO ?_
  have hlk : l.length ≤ 100 := by omega
  have key : ∀ w : Int, -3 ≤ w → w ≤ 100 → (u = 2 → w = 0) → errGo serErr 0 ⟨0, 0, 0⟩ (l ++ [⟨t, w, u⟩]) = 0 ∧ ∀ d : Int, 1 ≤ d → ∀ x ∈ l ++ [(⟨t, w, u⟩ : Smp)], 0 ≤ x.t ∧ x.t < t + d ∧ -3 ≤ x.v ∧ x.v ≤ 100 ∧ 0 ≤ x.q ∧ x.q ≤ 2 := by
   intro w w1 w2 w3
   refine ⟨?_, fun d hd x hx => ?_⟩
   ·rw [errGo_snoc _ _ _ _ _ q3]
    have h1 : smpErr ⟨t, w, u⟩ = 0 := by
     unfold smpErr
     rw [if_neg (by dsimp only; omega), if_neg (by dsimp only; omega), if_neg (by dsimp only; omega), if_neg (by dsimp only; omega)]
    have h2 : ∀ p, l.getLast? = some p → p.t < t := fun p hp => (q4 p (List.mem_of_getLast? hp)).2.1
    unfold serErr
    rw [if_neg (by rw [h1]; simp)]
    rw [if_neg]
    rintro ⟨h3, h4⟩
    cases hl : l.getLast? with
    | none => rw [List.getLast?_eq_none_iff.1 hl] at h3; simp at h3
    | some p =>
     rw [hl] at h4
     have := h2 p hl
     simp only [Option.getD_some] at h4
     omega
   ·rcases List.mem_append.1 hx with h | h
    ·have := q4 x h; omega
    ·simp at h; subst h; dsimp only; omega
  refine acond_d (fun hu2 => ?_) (fun hu2 => ?_)
  ·obtain ⟨key1, key2⟩ := key 0 oMg oMg (fun _ => rfl)
   refine gO ?_
   (refine app_gr (enc := encS) (e := 99) (sz := 3) (bs := 24) (z := [.int .i64 0, .int .i64 0, .int .i64 0]) (l) (⟨t, 0, u⟩) kRf kRf kRf kRf aTT (by first | (refine gO ?_; done) | (refine gO ?_; rfl) | (refine gO ?_; simp [go_sem]; done) | (refine gO ?_; simp [*]; done)) rfl (by decide) oMg oMg (by rfl) ?_)
   refine gO ?_
   refine pick_lit s zs (j2 + 1 + 1) [1, 5, 10, 30, 60] aTT rfl rfl (by first | exact hs | exact hs.app _ | exact hs.set oMg oMg | exact (hs.set oMg oMg).app _) oMg sMp sMp (fun d hd => ?_)
   simp only [List.mem_cons, List.not_mem_nil, or_false] at hd
   refine gO ?_
   refine Next.mk (k + 1, l ++ [⟨t, 0, u⟩], t + d, j2 + 1 + 1 + 1) ?_ ?_
   ·exact ⟨⟨by dsimp only; omega, by simp [q2], key1, key2 d oMg, by dsimp only; omega, by dsimp only; omega, by dsimp only; omega, by dsimp only; omega⟩, by dsimp only; omega⟩
   ·exact ow
  ·obtain ⟨key1, key2⟩ := key v oMg oMg (fun h => absurd h hu2)
   refine gO ?_
   (refine app_gr (enc := encS) (e := 99) (sz := 3) (bs := 24) (z := [.int .i64 0, .int .i64 0, .int .i64 0]) (l) (⟨t, v, u⟩) kRf kRf kRf kRf aTT (by first | (refine gO ?_; done) | (refine gO ?_; rfl) | (refine gO ?_; simp [go_sem]; done) | (refine gO ?_; simp [*]; done)) rfl (by decide) oMg oMg (by rfl) ?_)
   refine gO ?_
   refine pick_lit s zs (j2 + 1 + 1) [1, 5, 10, 30, 60] aTT rfl rfl (by first | exact hs | exact hs.app _ | exact hs.set oMg oMg | exact (hs.set oMg oMg).app _) oMg sMp sMp (fun d hd => ?_)
   simp only [List.mem_cons, List.not_mem_nil, or_false] at hd
   refine gO ?_
   refine Next.mk (k + 1, l ++ [⟨t, v, u⟩], t + d, j2 + 1 + 1 + 1) ?_ ?_
   ·exact ⟨⟨by dsimp only; omega, by simp [q2], key1, key2 d oMg, by dsimp only; omega, by dsimp only; omega, by dsimp only; omega, by dsimp only; omega⟩, by dsimp only; omega⟩
   ·exact ow
 ·refine gO ?_
  refine Ret.same sMp (hk l j2 oMg oMg ⟨?_, by omega, fun x hx => ?_⟩)
  ·unfold serF; rw [if_neg oMg]; exact q3
  ·have := q4 x hx; omega
theorem samples_a (s : Nat) (zs : List Int) (j most : Int) (hs : Str H s zs j) (hj : j ≤ 1000000000) (hm0 : 0 ≤ most) (hm1 : most ≤ 100)
  (hk : ∀ (l : List Smp) (j' : Int), j ≤ j' → j' ≤ j + 10 + 3 * most → l.length ≤ most → K (.c (.lst 3 (l.map encS))) (H.set s (strO zs j'))) :
  ACalls Tryz.prog 73 [.c (.ptr (some (s, 0, 0))), (.c (.int .i64 most))] H K := by
 have hlt := hs.lt
 have hpos := hs.pos
 have hne : H.length ≠ s := by omega
 refine acalls Tryz.func73 rfl kRf gT (fun hH => ?_)
 refine gO ?_
 refine rightSamples_o s zs j most hs oMg hm0 hm1 (fun l j1 h1 h2 h3 => ?_)
 obtain ⟨h4, h5, h6⟩ := h3
 refine gO ?_
 have hok : ∀ j', HOk (H.set s (strO zs j')) := fun j' => HOk.str hH
 by_cases hl0 : l = []
 ·subst hl0
  refine gO ?_
  exact Ret.frzGr 0 (hok _) sMp rfl rfl (by simp [grV]) (hk [] j1 oMg oMg (by simp; omega))
 ·have hl1 : 0 < l.length := List.length_pos_iff.2 hl0
  have hne2 : l.map encS ≠ [] := by simpa using hl0
  rw [grV_pos _ hl0, grO_pos _ _ hne2]
  have hpl : ∀ l : List Smp, pureL (l.map encS) = true := fun l => pureL_map l (fun x => by simp [AC.pure])
  refine gO ?_
  refine flip_a s zs j1 10 (by first | exact hs | exact hs.app _ | exact hs.set oMg oMg | exact (hs.set oMg oMg).app _) oMg oMg (fun b => ?_)
  refine gO ?_
  refine acond_b (fun c => ?_) (fun c => ?_)
  ·refine gO ?_
   refine next_a s zs (j1 + 1) l.length (by first | exact hs | exact hs.app _ | exact hs.set oMg oMg | exact (hs.set oMg oMg).app _) oMg oMg (fun r hr0 hr1 => ?_)
   refine gO ?_
   refine oneSample_a s zs (j1 + 1 + 1) (by first | exact hs | exact hs.app _ | exact hs.set oMg oMg | exact (hs.set oMg oMg).app _) oMg (fun x _ _ _ => ?_)
   refine gO ?_
   have e : (l.map encS).set r.toNat [.int .i64 x.t, .int .i64 x.v, .int .i64 x.q] = (l.set r.toNat x).map encS := by rw [List.map_set]; rfl
   rw [e]
   exact Ret.frzRow 0 (hok _) sMp rfl (hpl _) sMp sMp (hk _ _ oMg oMg (by simp; omega))
  ·refine gO ?_
   exact Ret.frzRow 0 (hok _) sMp rfl (hpl _) sMp sMp (hk l _ oMg oMg oMg)
end Go.Proofs.YtagoolooikpabaaGreatDoor
namespace Go.Proofs.YtagoolooikpabaaGreatDoor
open Go Go.RowKit
set_option maxRecDepth 100000
set_option maxHeartbeats 1000000
variable {H : Hp} {K : AV → Hp → Prop}
theorem errsGo_a (l : List Int) (hl : l.length ≤ 1000000) (hk : K (.c (.int .i64 (firstE l))) H) : ACalls Tryz.prog 12 [.c (.lst 1 (l.map encI))] H K := by
 refine acalls Tryz.func12 rfl (by kernel_rfl) (by simp (disch := first | omega | (simp only [go_sem]; try omega)) only [go_sem]) (fun hH => ?_)
 simp (disch := first | omega | (simp only [go_sem]; try omega)) only [go_sem]
 refine AWp.loop (H.length) [5, 6] [7] (fun (k : Nat) => k ≤ l.length ∧ firstE (l.drop k) = firstE l) (fun (k : Nat) => [(7, (.c (.int .i64 k)))]) (fun (k : Nat) => H) (fun (k : Nat) => l.length - k) (by kernel_rfl) (fun _ => rfl) (by kernel_rfl) (by first | (simp; done) | omega) (by first | (simp; done) | (simp; omega) | omega) kl ?_ (fun k hk1 _ _ => ?_)
 ·exact Next.mk 0 (by simp) wk
 ·simp (disch := first | omega | (simp only [go_sem]; try omega)) only [go_sem, *]
  repeat' (first | ((first | refine acond_d ?_ ?_ | refine acond_b ?_ ?_ | refine ag_d ?_ ?_ | refine ag_n ?_ ?_ | refine ag_bt ?_ ?_ | refine ag_bf ?_ ?_) <;> intro c <;> try simp (disch := first | omega | (simp only [go_sem]; try omega)) only [go_sem, c]) | ((first | refine w_draw (by kernel_rfl) (by decide +kernel) ?_) <;> try simp (disch := first | omega | (simp only [go_sem]; try omega)) only [go_sem]))
  ·have := firstE_drop l k (by omega)
   exact Next.mk (k + 1) ⟨⟨by omega, by grind⟩, by omega⟩ wk
  ·have := firstE_drop l k (by omega)
   (first | refine Ret.sameE (Nat.le_refl _) (by assumption) ?_ | refine Ret.dropE (by assumption) (Nat.le_refl _) (by assumption) (by simp [AV.ok, AV.ok1, AC.ok]) ?_) <;> (first | rfl | (simp only [AV.c.injEq, AC.bool.injEq]; rw [Bool.eq_iff_iff]; simp only [Bool.not_eq_true', decide_eq_true_eq, decide_eq_false_iff_not, Bool.and_eq_true, Bool.or_eq_true]; omega) | grind | (simp [*]; done) | (simp [*]; omega))
  ·have : l.drop k = [] := List.drop_eq_nil_of_le (by omega)
   have h0 : firstE l = 0 := by rw [← hk1.2, this]; rfl
   (first | refine Ret.sameE (Nat.le_refl _) (by assumption) ?_ | refine Ret.dropE (by assumption) (Nat.le_refl _) (by assumption) (by simp [AV.ok, AV.ok1, AC.ok]) ?_) <;> (first | rfl | (simp only [AV.c.injEq, AC.bool.injEq]; rw [Bool.eq_iff_iff]; simp only [Bool.not_eq_true', decide_eq_true_eq, decide_eq_false_iff_not, Bool.and_eq_true, Bool.or_eq_true]; omega) | grind | (simp [*]; done) | (simp [*]; omega))
end Go.Proofs.YtagoolooikpabaaGreatDoor
