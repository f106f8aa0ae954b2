/- The coarsest level that answers a query, with holds: the program. Condition: few holds, numbers as those of levels. -/
import Derived.Test.YthgdllfkejlnmaaGreatHVKeepsAll
namespace Go.Proofs.YthgdllfkejlnmaaGreat
open Go Go.RowKit
set_option maxRecDepth 100000
set_option linter.all false
set_option maxHeartbeats 2000000
variable {H : Hp} {K : AV → Hp → Prop}
def ansGo (p : Nat → Bool) : Nat → Int × Bool
  | 0 => (0, false)
  | k + 1 => if p k = true then ((k : Int), true) else ansGo p k
def fitsL (x : Level) (w : Win) (step : Int) : Bool := decide (step % longL x = 0 ∧ w.a % longL x = 0 ∧ w.b % longL x = 0)
def okP (h : List Hold) (w : Win) (step t : Int) (x : Level) : Bool := fitsL x w step && !(momsP x h w).any (fun m => inW w m && !keepB x h m t)
def winA (w : Win) (step t : Int) : Int := if w.a < 0 ∨ w.b ≤ w.a ∨ t < w.b ∨ ¬(0 ≤ t ∧ t ≤ 345686399999) ∨ ¬isStep step then 1 else if w.a % step ≠ 0 ∨ w.b % step ≠ 0 then 16 else 0
def ansE (lv : List Level) (h : List Hold) (tag : ByteArray) (w : Win) (step t : Int) : Int := firstE [firstE [lvF lv, hdF h, tagE tag], winA w step t]
def ansRes (lv : List Level) (h : List Hold) (tag : ByteArray) (w : Win) (step t : Int) : Int × Bool × Int :=
  if ansE lv h tag w step t ≠ 0 then (0, false, ansE lv h tag w step t) else
    ((ansGo (fun k => (lv[k]?).any (okP (ofF h tag) w step t)) lv.length).1, (ansGo (fun k => (lv[k]?).any (okP (ofF h tag) w step t)) lv.length).2, 0)
theorem hdF_times {l : List Hold} (h : hdF l = 0) : ∀ y ∈ l, y.t0 < y.t1 ∧ 0 ≤ y.t0 ∧ y.t1 ≤ 345686400000 ∧ 0 ≤ y.made ∧ y.made < y.ends ∧ y.ends ≤ 345686400000 := by
  have h1 : errGo hdErr 0 hold0 l = 0 := by
    unfold hdF at h
    split at h
    · cases h
    · exact h
  intro y hy
  obtain ⟨k, hk, rfl⟩ := List.getElem_of_mem hy
  have h2 := errGo_pair hdErr _ _ h1 k hk
  unfold hdErr at h2
  split at h2
  · exact absurd h2 (by assumption)
  · split at h2
    · cases h2
    · split at h2
      · cases h2
      · omega
theorem firstE_2 (a b : Int) : firstE [a, b] = if a = 0 then b else a := by
  unfold firstE
  by_cases h : a = 0
  · rw [if_pos h, if_pos h]
    unfold firstE
    split
    · rename_i h1; rw [h1]; rfl
    · rfl
  · rw [if_neg h, if_neg h]
theorem answer_a (lv : List Level) (h : List Hold) (tag : ByteArray) (w : Win) (step t : Int) (hl : lv.length ≤ 1000) (hlen : h.length ≤ 12) (hs : ∀ x ∈ h, x.short) (hnr : ∀ y ∈ h, y.near) (ht : tag.size ≤ 1000)
    (hst : -1000000000000 ≤ step ∧ step ≤ 1000000000000)
    (hk : K (.tup [(.c (.int .i64 ((ansRes lv h tag w step t).1))), (.c (.bool ((ansRes lv h tag w step t).2.1))), (.c (.int .i64 ((ansRes lv h tag w step t).2.2)))]) H) : ACalls Tryz.prog 17 [.c (.lst 2 (lv.map encL)), .c (.lst 6 (h.map encH)), (.c (.str tag)), .agg (encW w), (.c (.int .i64 step)), (.c (.int .i64 t))] H K := by
  refine acalls Tryz.func17 rfl (by kernel_rfl) (by simp (disch := first | omega | (simp only [go_sem]; first | done | omega)) only [go_sem]) (fun hH => ?_)
  simp (disch := first | omega | (simp only [go_sem]; first | done | omega)) only [go_sem]
  refine fault_a lv h tag hl (by omega) hs ht ?_
  simp (disch := first | omega | (simp only [go_sem]; first | done | omega)) only [go_sem]
  refine acond_d (fun c => ?_) (fun c => ?_)
  rotate_left
  · have e : ansE lv h tag w step t = firstE [lvF lv, hdF h, tagE tag] := by unfold ansE; rw [firstE_2, if_neg c]
    rw [show ansRes lv h tag w step t = (0, false, firstE [lvF lv, hdF h, tagE tag]) by unfold ansRes; rw [e, if_pos c]] at hk
    simp (disch := first | omega | (simp only [go_sem]; first | done | omega)) only [go_sem]
    exact Ret.drop hH (Nat.le_refl _) (by simp [AV.ok, AV.ok1, AC.ok]) hk
  obtain ⟨c1, c2, c3⟩ := firstE_three c
  have e : ansE lv h tag w step t = winA w step t := by unfold ansE; rw [firstE_2, if_pos c]
  obtain ⟨hx, h6, h0⟩ := lvF_ok c1
  have hht := hdF_times c2
  by_cases c4 : w.a < 0 ∨ w.b ≤ w.a ∨ t < w.b ∨ ¬(0 ≤ t ∧ t ≤ 345686399999) ∨ ¬isStep step
  · have e2 : winA w step t = 1 := by unfold winA; rw [if_pos c4]
    rw [show ansRes lv h tag w step t = (0, false, 1) by unfold ansRes; rw [e, e2]; rfl] at hk
    simp (disch := first | omega | (simp only [go_sem]; first | done | omega)) only [go_sem]
    repeat' (first | ((first | refine acond_d ?_ ?_ | refine acond_b ?_ ?_ | refine ag_d ?_ ?_ | refine ag_n ?_ ?_ | refine ag_bt ?_ ?_ | refine ag_bf ?_ ?_) <;> intro c <;> try simp (disch := first | omega | (simp only [go_sem]; first | done | omega)) only [go_sem, c]) | ((first | refine w_draw (by kernel_rfl) (by decide +kernel) ?_ | refine moment_a _ _ _ ?_ | refine isStep_a _ _ _ ?_) <;> try simp (disch := first | omega | (simp only [go_sem]; first | done | omega)) only [go_sem]))
    all_goals exact Ret.drop hH (Nat.le_refl _) (by simp [AV.ok, AV.ok1, AC.ok]) hk
  have e4 : winA w step t = if w.a % step ≠ 0 ∨ w.b % step ≠ 0 then 16 else 0 := by unfold winA; rw [if_neg c4]
  have hw0 : 0 ≤ w.a := by omega
  have hw1 : w.a < w.b := by omega
  have hw2 : w.b ≤ t := by omega
  have ht0 : 0 ≤ t := by omega
  have ht1 : t ≤ 345686399999 := by omega
  have hsp : isStep step := Classical.byContradiction fun h => c4 (.inr (.inr (.inr (.inr h))))
  have hs1 : 1 ≤ step := hsp.1
  have hs2 : step ≤ 86400000 := hsp.2.1
  simp (disch := first | omega | (simp only [go_sem]; first | done | omega)) only [go_sem]
  refine moment_a _ _ _ ?_
  simp (disch := first | omega | (simp only [go_sem]; first | done | omega)) only [go_sem]
  refine isStep_a _ _ _ ?_
  by_cases d1 : w.a % step = 0
  case neg =>
    have e5 : winA w step t = 16 := by rw [e4, if_pos (.inl d1)]
    rw [show ansRes lv h tag w step t = (0, false, 16) by unfold ansRes; rw [e, e5]; rfl] at hk
    simp (disch := first | omega | (simp only [go_sem]; first | done | omega)) only [go_sem, hsp, d1]
    exact Ret.drop hH (Nat.le_refl _) (by simp [AV.ok, AV.ok1, AC.ok]) hk
  by_cases d2 : w.b % step = 0
  case neg =>
    have e5 : winA w step t = 16 := by rw [e4, if_pos (.inr d2)]
    rw [show ansRes lv h tag w step t = (0, false, 16) by unfold ansRes; rw [e, e5]; rfl] at hk
    simp (disch := first | omega | (simp only [go_sem]; first | done | omega)) only [go_sem, hsp, d1, d2]
    exact Ret.drop hH (Nat.le_refl _) (by simp [AV.ok, AV.ok1, AC.ok]) hk
  have e0 : ansE lv h tag w step t = 0 := by rw [e, e4, if_neg (by rintro (h | h) <;> exact h (by assumption))]
  obtain ⟨p, hp⟩ : ∃ p : Nat → Bool, p = fun k => (lv[k]?).any (okP (ofF h tag) w step t) := ⟨_, rfl⟩
  rw [show ansRes lv h tag w step t = ((ansGo p lv.length).1, (ansGo p lv.length).2, 0) by unfold ansRes; rw [if_neg (by rw [e0]; decide), hp]] at hk
  have hlo := ofF_len h tag
  simp (disch := first | omega | (simp only [go_sem]; first | done | omega)) only [go_sem, hsp, d1, d2]
  refine of_a h tag (by omega) ?_
  simp (disch := first | omega | (simp only [go_sem]; first | done | omega)) only [go_sem]
  refine AWp.loop (H.length + 1) [0, 1, 4, 5, 9] [16] (fun (k : Nat) => k ≤ lv.length ∧ ansGo p k = ansGo p lv.length) (fun (k : Nat) => [(16, (.c (.int .i64 ((k : Int) - 1))))]) (fun (k : Nat) => H ++ [.row 35 2 [encW w] true]) (fun (k : Nat) => k) (by kernel_rfl) (fun _ => rfl) (by kernel_rfl) (by simp) (by first | (simp; done) | (simp; omega)) (by (try simp only [List.forall_mem_cons, List.not_mem_nil, false_implies, implies_true, and_true]); (try simp (disch := first | omega | (simp only [go_sem]; first | done | omega)) only [go_sem]); all_goals first | trivial | (simp [AV.ok, AV.ok1, AC.ok]; done) | (simp [AV.ok, AV.ok1, AC.ok]; omega) | (simp [AV.ok, AV.ok1, AC.ok]; assumption) | ((repeat' apply And.intro) <;> first | trivial | (simp [AV.ok, AV.ok1, AC.ok]; done) | (simp [AV.ok, AV.ok1, AC.ok]; omega) | (simp [AV.ok, AV.ok1, AC.ok]; assumption) | (refine grV_ok ?_ _; first | (simp; done) | (simp; omega) | omega))) ?_ (fun k hk0 _ _ => ?_)
  · exact Next.mk lv.length ⟨Nat.le_refl _, rfl⟩ (by (try simp (disch := first | omega | (simp only [go_sem]; first | done | omega)) only [go_sem]); (first | refine WkL.eq ?_ ?_ | refine WkL.rest (by assumption) ?_ ?_ ?_ | refine WkL.keepL (by assumption) rfl ?_ ?_ ?_ ?_) <;> first | rfl | (simp; done) | (simp; omega) | (simp only [List.cons.injEq, AV.c.injEq, AC.int.injEq, AC.bool.injEq, AC.str.injEq, and_true, true_and, Int.natCast_add, Int.natCast_one, Int.cast_ofNat_Int]; omega) | (simp [AV.ok, AV.ok1, AC.ok]; done) | (simp [AV.ok, AV.ok1, AC.ok]; omega) | (simp only [List.forall_mem_cons, List.not_mem_nil, false_implies, implies_true, and_true]; (repeat' apply And.intro) <;> first | exact okN_map (fun x => by simp [go_sem, AC.pure]) | exact okN_grO (fun x => by simp [go_sem, AC.pure]) | (simp [AObj.okN, AC.ok]; done) | (simp [AObj.okN, AC.ok]; omega)) | (simp [*]; done) | grind)
  obtain ⟨hk1, hk2⟩ := hk0
  by_cases h1 : 0 < k
  · obtain ⟨q, rfl⟩ : ∃ q, k = q + 1 := ⟨k - 1, by omega⟩
    have hpq : p q = okP (ofF h tag) w step t lv[q] := by rw [hp]; simp [List.getElem?_eq_getElem (show q < lv.length by omega)]
    have e1 : (((q + 1 : Nat) : Int) - 1).toNat = q := by omega
    have hX : lv[(((q + 1 : Nat) : Int) - 1).toNat]'(by omega) = lv[q] := by simp only [e1]
    have hxk := hx lv[q] (List.getElem_mem (by omega))
    have hok := hxk
    obtain ⟨x0, x1, x2, x3⟩ := hxk
    have e2 : (((q + 1 : Nat) : Int) - 1) = (q : Int) := by omega
    obtain ⟨n, hn⟩ : ∃ n, max 1 lv[q].step = n := ⟨_, rfl⟩
    have hln : longL lv[q] = n := hn
    have hn1 : 1 ≤ n := by omega
    have hn2 : n ≤ 86400000 := by omega
    have hgo : p q = false → ansGo p q = ansGo p lv.length := fun h => by
      rw [← hk2]
      show _ = if p q = true then _ else _
      rw [if_neg (by rw [h]; decide)]
    have hnot : ¬(step % n = 0 ∧ w.a % n = 0 ∧ w.b % n = 0) → p q = false := fun h => by
      rw [hpq]; unfold okP fitsL; rw [hln, decide_eq_false h]; rfl
    have hyes : step % n = 0 → w.a % n = 0 → w.b % n = 0 → p q = !(momsP lv[q] (ofF h tag) w).any (fun m => inW w m && !keepB lv[q] (ofF h tag) m t) := fun g1 g2 g3 => by
      rw [hpq]; unfold okP fitsL; rw [hln, decide_eq_true ⟨g1, g2, g3⟩]; rfl
    by_cases c1 : step % n = 0
    case neg =>
      simp (disch := first | omega | (simp only [go_sem]; first | done | omega)) only [go_sem, hX, hn, c1]
      exact Next.mk q ⟨⟨by omega, hgo (hnot fun h => c1 h.1)⟩, by omega⟩ (by (try simp (disch := first | omega | (simp only [go_sem]; first | done | omega)) only [go_sem]); (first | refine WkL.eq ?_ ?_ | refine WkL.rest (by assumption) ?_ ?_ ?_ | refine WkL.keepL (by assumption) rfl ?_ ?_ ?_ ?_) <;> first | rfl | (simp; done) | (simp; omega) | (simp only [List.cons.injEq, AV.c.injEq, AC.int.injEq, AC.bool.injEq, AC.str.injEq, and_true, true_and, Int.natCast_add, Int.natCast_one, Int.cast_ofNat_Int]; omega) | (simp [AV.ok, AV.ok1, AC.ok]; done) | (simp [AV.ok, AV.ok1, AC.ok]; omega) | (simp only [List.forall_mem_cons, List.not_mem_nil, false_implies, implies_true, and_true]; (repeat' apply And.intro) <;> first | exact okN_map (fun x => by simp [go_sem, AC.pure]) | exact okN_grO (fun x => by simp [go_sem, AC.pure]) | (simp [AObj.okN, AC.ok]; done) | (simp [AObj.okN, AC.ok]; omega)) | (simp [*]; done) | grind)
    by_cases c2 : w.a % n = 0
    case neg =>
      simp (disch := first | omega | (simp only [go_sem]; first | done | omega)) only [go_sem, hX, hn, c1, c2]
      exact Next.mk q ⟨⟨by omega, hgo (hnot fun h => c2 h.2.1)⟩, by omega⟩ (by (try simp (disch := first | omega | (simp only [go_sem]; first | done | omega)) only [go_sem]); (first | refine WkL.eq ?_ ?_ | refine WkL.rest (by assumption) ?_ ?_ ?_ | refine WkL.keepL (by assumption) rfl ?_ ?_ ?_ ?_) <;> first | rfl | (simp; done) | (simp; omega) | (simp only [List.cons.injEq, AV.c.injEq, AC.int.injEq, AC.bool.injEq, AC.str.injEq, and_true, true_and, Int.natCast_add, Int.natCast_one, Int.cast_ofNat_Int]; omega) | (simp [AV.ok, AV.ok1, AC.ok]; done) | (simp [AV.ok, AV.ok1, AC.ok]; omega) | (simp only [List.forall_mem_cons, List.not_mem_nil, false_implies, implies_true, and_true]; (repeat' apply And.intro) <;> first | exact okN_map (fun x => by simp [go_sem, AC.pure]) | exact okN_grO (fun x => by simp [go_sem, AC.pure]) | (simp [AObj.okN, AC.ok]; done) | (simp [AObj.okN, AC.ok]; omega)) | (simp [*]; done) | grind)
    by_cases c3 : w.b % n = 0
    case neg =>
      simp (disch := first | omega | (simp only [go_sem]; first | done | omega)) only [go_sem, hX, hn, c1, c2, c3]
      exact Next.mk q ⟨⟨by omega, hgo (hnot fun h => c3 h.2.2)⟩, by omega⟩ (by (try simp (disch := first | omega | (simp only [go_sem]; first | done | omega)) only [go_sem]); (first | refine WkL.eq ?_ ?_ | refine WkL.rest (by assumption) ?_ ?_ ?_ | refine WkL.keepL (by assumption) rfl ?_ ?_ ?_ ?_) <;> first | rfl | (simp; done) | (simp; omega) | (simp only [List.cons.injEq, AV.c.injEq, AC.int.injEq, AC.bool.injEq, AC.str.injEq, and_true, true_and, Int.natCast_add, Int.natCast_one, Int.cast_ofNat_Int]; omega) | (simp [AV.ok, AV.ok1, AC.ok]; done) | (simp [AV.ok, AV.ok1, AC.ok]; omega) | (simp only [List.forall_mem_cons, List.not_mem_nil, false_implies, implies_true, and_true]; (repeat' apply And.intro) <;> first | exact okN_map (fun x => by simp [go_sem, AC.pure]) | exact okN_grO (fun x => by simp [go_sem, AC.pure]) | (simp [AObj.okN, AC.ok]; done) | (simp [AObj.okN, AC.ok]; omega)) | (simp [*]; done) | grind)
    have hy := hyes c1 c2 c3
    simp (disch := first | omega | (simp only [go_sem]; first | done | omega)) only [go_sem, hX, hn, c1, c2, c3]
    refine keepsAll_a lv[q] (ofF h tag) w t hok (by omega) (fun y hy => ?_) (fun y hy => ?_) hw0 (by omega) ?_
    · exact hnr y (List.mem_filter.1 hy).1
    · have := hht y (List.mem_filter.1 hy).1; omega
    rw [← hy]
    simp (disch := first | omega | (simp only [go_sem]; first | done | omega)) only [go_sem]
    refine acond_b (fun c5 => ?_) (fun c5 => ?_)
    · have e6 : ansGo p lv.length = ((q : Int), true) := by
        rw [← hk2]
        show (if p q = true then _ else _) = _
        rw [if_pos c5]
      rw [e6] at hk
      simp (disch := first | omega | (simp only [go_sem]; first | done | omega)) only [go_sem]
      exact Ret.drop hH (Nat.le_refl _) (by simp [AV.ok, AV.ok1, AC.ok]) (by rw [e2]; exact hk)
    · simp (disch := first | omega | (simp only [go_sem]; first | done | omega)) only [go_sem]
      exact Next.mk q ⟨⟨by omega, hgo c5⟩, by omega⟩ (by (try simp (disch := first | omega | (simp only [go_sem]; first | done | omega)) only [go_sem]); (first | refine WkL.eq ?_ ?_ | refine WkL.rest (by assumption) ?_ ?_ ?_ | refine WkL.keepL (by assumption) rfl ?_ ?_ ?_ ?_) <;> first | rfl | (simp; done) | (simp; omega) | (simp only [List.cons.injEq, AV.c.injEq, AC.int.injEq, AC.bool.injEq, AC.str.injEq, and_true, true_and, Int.natCast_add, Int.natCast_one, Int.cast_ofNat_Int]; omega) | (simp [AV.ok, AV.ok1, AC.ok]; done) | (simp [AV.ok, AV.ok1, AC.ok]; omega) | (simp only [List.forall_mem_cons, List.not_mem_nil, false_implies, implies_true, and_true]; (repeat' apply And.intro) <;> first | exact okN_map (fun x => by simp [go_sem, AC.pure]) | exact okN_grO (fun x => by simp [go_sem, AC.pure]) | (simp [AObj.okN, AC.ok]; done) | (simp [AObj.okN, AC.ok]; omega)) | (simp [*]; done) | grind)
  · obtain rfl : k = 0 := by omega
    rw [← hk2] at hk
    simp (disch := first | omega | (simp only [go_sem]; first | done | omega)) only [go_sem]
    exact Ret.drop hH (Nat.le_refl _) (by simp [AV.ok, AV.ok1, AC.ok]) hk
end Go.Proofs.YthgdllfkejlnmaaGreat
