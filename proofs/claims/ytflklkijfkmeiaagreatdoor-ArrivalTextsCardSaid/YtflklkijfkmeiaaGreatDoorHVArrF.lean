/- What is wrong with arrivals: the program's answer and the document's. Condition: names are not longer than a machine holds. -/
import Derived.Test.YtflklkijfkmeiaaGreatDoorHVArrE
namespace Go.Proofs.YtflklkijfkmeiaaGreatDoor
open Go Go.RowKit
set_option maxRecDepth 100000
set_option linter.all false
set_option maxHeartbeats 1000000
variable {H : Hp} {K : AV → Hp → Prop}
theorem cmpB_flip : ∀ a b : List UInt8, Lib.compareBytes b a = -Lib.compareBytes a b
  | [], [] => rfl
  | [], _ :: _ => rfl
  | _ :: _, [] => rfl
  | x :: xs, y :: ys => by
    have ih := cmpB_flip xs ys
    unfold Lib.compareBytes
    grind
theorem cmpS_flip (a b : ByteArray) : cmpS b a = -cmpS a b := by unfold cmpS; exact cmpB_flip _ _
theorem arrC_flip (a b : Arr) : arrC b a = -arrC a b := by
  have h1 := cmpS_flip a.nd b.nd
  unfold arrC sgn
  grind
def arS (p : Option Arr) (a : Arr) : Int := if arrErr a ≠ 0 then arrErr a else match p with | none => 0 | some b => if arrC a b ≤ 0 then 7 else 0
def arGo : Option Arr → List Arr → Int
  | _, [] => 0
  | p, a :: t => if arS p a ≠ 0 then arS p a else arGo (some a) t
def arF (l : List Arr) : Int := if 2000 < l.length then 2 else if arGo none l ≠ 0 then arGo none l else if 50 < (nodesF l).length then 2 else if cfF [] l = true then 13 else 0
def prevA (l : List Arr) (k : Nat) : Option Arr := if k = 0 then none else l[k - 1]?
theorem arGo_next {l : List Arr} {k : Nat} (h : k < l.length) : arGo (prevA l k) (l.drop k) = if arS (prevA l k) l[k] ≠ 0 then arS (prevA l k) l[k] else arGo (prevA l (k + 1)) (l.drop (k + 1)) := by
  rw [List.drop_eq_getElem_cons h, arGo]
  have : prevA l (k + 1) = some l[k] := by unfold prevA; rw [if_neg (by omega), Nat.add_sub_cancel, List.getElem?_eq_getElem h]
  rw [this]
theorem arrErr_bd {a : Arr} (h : arrErr a = 0) : (0 ≤ a.t ∧ a.t ≤ 345686399999) ∧ 1 ≤ a.p.n ∧ a.p.n ≤ 1000000 := by
  unfold arrErr at h
  split at h
  · omega
  · split at h
    · omega
    · omega
theorem checkArrivals_a (l : List Arr) (hsz : ∀ x ∈ l, x.nd.size ≤ 1099511627776 ∧ x.p.tag.size ≤ 1099511627776) (hl : l.length ≤ 1000000) (hk : K (.c (.int .i64 (arF l))) H) : ACalls Tryz.prog 87 [.c (.lst 7 (l.map encAr))] H K := by
  unfold arF at hk
  by_cases h0 : 2000 < l.length
  · rw [if_pos h0] at hk
    have h0' : (2000 : Int) < l.length := by omega
    refine acalls Tryz.func87 rfl (by kernel_rfl) (by simp (disch := first | omega | (simp only [go_sem]; first | done | omega)) only [go_sem]) (fun hH => ?_)
    simp (disch := first | omega | (simp only [go_sem]; first | done | omega)) only [go_sem, decide_eq_true h0']
    exact Ret.same (Nat.le_refl _) hk
  rw [if_neg h0] at hk
  have h0' : ¬ (2000 : Int) < l.length := by omega
  refine acalls Tryz.func87 rfl (by kernel_rfl) (by simp (disch := first | omega | (simp only [go_sem]; first | done | omega)) only [go_sem]) (fun hH => ?_)
  simp (disch := first | omega | (simp only [go_sem]; first | done | omega)) only [go_sem, decide_eq_false h0']
  refine AWp.loop (H.length) [0, 9, 10] [11] (fun (k : Nat) => k ≤ l.length ∧ arGo (prevA l k) (l.drop k) = arGo none l) (fun (k : Nat) => [(11, (.c (.int .i64 k)))]) (fun (k : Nat) => H) (fun (k : Nat) => l.length - k) (by kernel_rfl) (fun _ => rfl) (by kernel_rfl) (by first | (simp; done) | omega) (by first | (simp; done) | (simp; omega) | omega) kl ?_ (fun k q _ _ => ?_)
  · refine Next.mk 0 ⟨Nat.zero_le _, rfl⟩ ?_
    exact wk
  obtain ⟨q1, q3⟩ := q
  by_cases hlt : k < l.length
  · obtain ⟨x, hx⟩ : ∃ x, x = l[k] := ⟨_, rfl⟩
    have hstep := arGo_next hlt
    rw [q3, ← hx] at hstep
    obtain ⟨z1, z2⟩ := hsz x (hx ▸ List.getElem_mem hlt)
    simp (disch := first | omega | (simp only [go_sem]; first | done | omega)) only [go_sem, hlt, ← hx]
    refine arrivalFault_a x z1 z2 ?_
    by_cases he : arrErr x = 0
    · by_cases hk0 : k = 0
      · subst hk0
        have e : arS (prevA l 0) x = 0 := by unfold arS prevA; simp [he]
        rw [e] at hstep
        simp (disch := first | omega | (simp only [go_sem]; first | done | omega)) only [go_sem, he]
        refine w_draw (by kernel_rfl) (by decide +kernel) ?_
        simp (disch := first | omega | (simp only [go_sem]; first | done | omega)) only [go_sem, he]
        refine Next.mk 1 ⟨⟨by omega, by rw [hstep]; rfl⟩, by omega⟩ ?_
        exact wk
      · obtain ⟨y, hy⟩ : ∃ y, y = l[k - 1] := ⟨_, rfl⟩
        have e : arS (prevA l k) x = if arrC x y ≤ 0 then 7 else 0 := by unfold arS prevA; rw [if_neg (by simp [he]), if_neg hk0, List.getElem?_eq_getElem (by omega), ← hy]
        rw [e] at hstep
        have hk1 : (0 : Int) < k := by omega
        have hix : ((k : Int) - 1).toNat = k - 1 := by omega
        simp (disch := first | omega | (simp only [go_sem]; first | done | omega)) only [go_sem, he]
        repeat' (first | ((first | refine acond_d ?_ ?_ | refine acond_b ?_ ?_ | refine ag_d ?_ ?_ | refine ag_n ?_ ?_ | refine ag_bt ?_ ?_ | refine ag_bf ?_ ?_) <;> intro c <;> try simp (disch := first | omega | (simp only [go_sem]; first | done | omega)) only [go_sem, c, decide_eq_true hk1, hix, ← hy, hlt]) | ((first | refine w_draw (by kernel_rfl) (by decide +kernel) ?_ | refine byTime_a x y ?_) <;> try simp (disch := first | omega | (simp only [go_sem]; first | done | omega)) only [go_sem, decide_eq_true hk1, hix, ← hy, hlt]))
        · rw [if_pos c, if_pos (by decide)] at hstep
          rw [hstep, if_pos (by decide)] at hk
          exact Ret.drop hH (Nat.le_refl _) trivial hk
        · rw [if_neg c, if_neg (by simp)] at hstep
          refine Next.mk (k + 1) ⟨⟨by omega, hstep.symm⟩, by omega⟩ ?_
          exact wk
    · have e : arS (prevA l k) x = arrErr x := by unfold arS; rw [if_pos he]
      rw [e, if_pos he] at hstep
      rw [hstep, if_pos he] at hk
      simp (disch := first | omega | (simp only [go_sem]; first | done | omega)) only [go_sem, he]
      exact Ret.drop hH (Nat.le_refl _) trivial hk
  · rw [List.drop_eq_nil_of_le (by omega)] at q3
    have q4 : arGo none l = 0 := by rw [← q3]; cases prevA l k <;> rfl
    rw [q4, if_neg (by simp)] at hk
    simp (disch := first | omega | (simp only [go_sem]; first | done | omega)) only [go_sem, hlt]
    refine crowded_a l hl ?_
    by_cases h1 : 50 < (nodesF l).length
    · rw [if_pos h1] at hk
      simp (disch := first | omega | (simp only [go_sem]; first | done | omega)) only [go_sem, decide_eq_true h1]
      exact Ret.same (Nat.le_refl _) hk
    rw [if_neg h1] at hk
    simp (disch := first | omega | (simp only [go_sem]; first | done | omega)) only [go_sem, decide_eq_false h1]
    refine conflict_a l hl ?_
    cases h2 : cfF [] l with
    | true =>
      rw [h2, if_pos rfl] at hk
      simp (disch := first | omega | (simp only [go_sem]; first | done | omega)) only [go_sem]
      exact Ret.same (Nat.le_refl _) hk
    | false =>
      rw [h2, if_neg (by simp)] at hk
      simp (disch := first | omega | (simp only [go_sem]; first | done | omega)) only [go_sem]
      exact Ret.same (Nat.le_refl _) hk
theorem arrivalsFault_a (l : List Arr) (hsz : ∀ x ∈ l, x.nd.size ≤ 1099511627776 ∧ x.p.tag.size ≤ 1099511627776) (hl : l.length ≤ 1000000) (hk : K (.c (.int .i64 (arF l))) H) : ACalls Tryz.prog 28 [.c (.lst 7 (l.map encAr))] H K := by
  unfold arF at hk
  by_cases h0 : 2000 < l.length
  · rw [if_pos h0] at hk
    have h0' : (2000 : Int) < l.length := by omega
    refine acalls Tryz.func28 rfl (by kernel_rfl) (by simp (disch := first | omega | (simp only [go_sem]; first | done | omega)) only [go_sem]) (fun hH => ?_)
    simp (disch := first | omega | (simp only [go_sem]; first | done | omega)) only [go_sem, decide_eq_true h0']
    exact Ret.same (Nat.le_refl _) hk
  rw [if_neg h0] at hk
  have h0' : ¬ (2000 : Int) < l.length := by omega
  refine acalls Tryz.func28 rfl (by kernel_rfl) (by simp (disch := first | omega | (simp only [go_sem]; first | done | omega)) only [go_sem]) (fun hH => ?_)
  simp (disch := first | omega | (simp only [go_sem]; first | done | omega)) only [go_sem, decide_eq_false h0']
  refine AWp.loop (H.length) [0, 9, 10] [11] (fun (k : Nat) => k ≤ l.length ∧ arGo (prevA l k) (l.drop k) = arGo none l ∧ ∀ y, prevA l k = some y → arrErr y = 0) (fun (k : Nat) => [(11, (.c (.int .i64 k)))]) (fun (k : Nat) => H) (fun (k : Nat) => l.length - k) (by kernel_rfl) (fun _ => rfl) (by kernel_rfl) (by first | (simp; done) | omega) (by first | (simp; done) | (simp; omega) | omega) kl ?_ (fun k q _ _ => ?_)
  · refine Next.mk 0 ⟨Nat.zero_le _, rfl, by intro y hy; cases hy⟩ ?_
    exact wk
  obtain ⟨q1, q3, q4⟩ := q
  by_cases hlt : k < l.length
  · obtain ⟨x, hx⟩ : ∃ x, x = l[k] := ⟨_, rfl⟩
    have hstep := arGo_next hlt
    have hpv : prevA l (k + 1) = some x := by unfold prevA; rw [if_neg (by omega), Nat.add_sub_cancel, List.getElem?_eq_getElem hlt, hx]
    rw [q3, ← hx] at hstep
    obtain ⟨z1, z2⟩ := hsz x (hx ▸ List.getElem_mem hlt)
    by_cases he : arrErr x = 0
    · obtain ⟨b1, b2⟩ := arrErr_bd he
      have hq4 : ∀ y, prevA l (k + 1) = some y → arrErr y = 0 := by intro y hy; rw [hpv] at hy; injection hy with hy; subst hy; exact he
      have he2 := he
      unfold arrErr at he2
      by_cases hk0 : k = 0
      · subst hk0
        have e : arS (prevA l 0) x = 0 := by unfold arS prevA; simp [he]
        rw [e] at hstep
        simp (disch := first | omega | (simp only [go_sem]; first | done | omega)) only [go_sem, hlt, ← hx]
        repeat' (first | ((first | refine acond_d ?_ ?_ | refine acond_b ?_ ?_ | refine ag_d ?_ ?_ | refine ag_n ?_ ?_ | refine ag_bt ?_ ?_ | refine ag_bf ?_ ?_) <;> intro c <;> try simp (disch := first | omega | (simp only [go_sem]; first | done | omega)) only [go_sem, c, ← hx]) | ((first | refine w_draw (by kernel_rfl) (by decide +kernel) ?_ | refine keyR_a _ z1 ?_ | refine keyR_a _ z2 ?_ | refine sampleFault_a x.p.s ?_ | refine in_a _ _ _ _ _ ?_ | refine momentR_a _ _ _ ?_) <;> try simp (disch := first | omega | (simp only [go_sem]; first | done | omega)) only [go_sem, ← hx]))
        all_goals first
          | exact Next.mk 1 ⟨⟨by omega, by rw [hstep]; rfl, hq4⟩, by omega⟩ wk
          | (exfalso; grind)
      · obtain ⟨y, hy⟩ : ∃ y, y = l[k - 1] := ⟨_, rfl⟩
        have e : arS (prevA l k) x = if arrC x y ≤ 0 then 7 else 0 := by unfold arS prevA; rw [if_neg (by simp [he]), if_neg hk0, List.getElem?_eq_getElem (by omega), ← hy]
        have ey : arrErr y = 0 := q4 y (by unfold prevA; rw [if_neg hk0, List.getElem?_eq_getElem (by omega), ← hy])
        obtain ⟨b3, b4⟩ := arrErr_bd ey
        rw [e] at hstep
        have hk1 : (0 : Int) < k := by omega
        have hix : ((k : Int) - 1).toNat = k - 1 := by omega
        have hfl := arrC_flip x y
        simp (disch := first | omega | (simp only [go_sem]; first | done | omega)) only [go_sem, hlt, ← hx]
        repeat' (first | ((first | refine acond_d ?_ ?_ | refine acond_b ?_ ?_ | refine ag_d ?_ ?_ | refine ag_n ?_ ?_ | refine ag_bt ?_ ?_ | refine ag_bf ?_ ?_) <;> intro c <;> try simp (disch := first | omega | (simp only [go_sem]; first | done | omega)) only [go_sem, c, decide_eq_true hk1, hix, ← hy, ← hx, hlt]) | ((first | refine w_draw (by kernel_rfl) (by decide +kernel) ?_ | refine keyR_a _ z1 ?_ | refine keyR_a _ z2 ?_ | refine sampleFault_a x.p.s ?_ | refine in_a _ _ _ _ _ ?_ | refine momentR_a _ _ _ ?_ | refine arrivalOrder_a y x (by omega) (by omega) (by omega) (by omega) ?_) <;> try simp (disch := first | omega | (simp only [go_sem]; first | done | omega)) only [go_sem, decide_eq_true hk1, hix, ← hy, ← hx, hlt]))
        all_goals first
          | (rw [if_neg (show ¬ arrC x y ≤ 0 by omega), if_neg (by simp)] at hstep; exact Next.mk (k + 1) ⟨⟨by omega, hstep.symm, hq4⟩, by omega⟩ wk)
          | (rw [if_pos (show arrC x y ≤ 0 by omega), if_pos (by decide)] at hstep; rw [hstep, if_pos (by decide)] at hk; exact Ret.drop hH (Nat.le_refl _) trivial hk)
          | (exfalso; grind)
    · have e : arS (prevA l k) x = arrErr x := by unfold arS; rw [if_pos he]
      rw [e, if_pos he] at hstep
      rw [hstep, if_pos he] at hk
      have he2 := he
      unfold arrErr at he2
      simp (disch := first | omega | (simp only [go_sem]; first | done | omega)) only [go_sem, hlt, ← hx]
      repeat' (first | ((first | refine acond_d ?_ ?_ | refine acond_b ?_ ?_ | refine ag_d ?_ ?_ | refine ag_n ?_ ?_ | refine ag_bt ?_ ?_ | refine ag_bf ?_ ?_) <;> intro c <;> try simp (disch := first | omega | (simp only [go_sem]; first | done | omega)) only [go_sem, c, ← hx]) | ((first | refine w_draw (by kernel_rfl) (by decide +kernel) ?_ | refine keyR_a _ z1 ?_ | refine keyR_a _ z2 ?_ | refine sampleFault_a x.p.s ?_ | refine in_a _ _ _ _ _ ?_ | refine momentR_a _ _ _ ?_) <;> try simp (disch := first | omega | (simp only [go_sem]; first | done | omega)) only [go_sem, ← hx]))
      all_goals first
        | (first | refine Ret.sameE (Nat.le_refl _) (by assumption) ?_ | refine Ret.dropE (by assumption) (Nat.le_refl _) (by assumption) (by simp [AV.ok, AV.ok1, AC.ok]) ?_) <;> grind [arrErr]
        | (exfalso; grind)
  · rw [List.drop_eq_nil_of_le (by omega)] at q3
    have q4 : arGo none l = 0 := by rw [← q3]; cases prevA l k <;> rfl
    rw [q4, if_neg (by simp)] at hk
    simp (disch := first | omega | (simp only [go_sem]; first | done | omega)) only [go_sem, hlt]
    refine nodesOf_a l hl ?_
    have hnl := nodes_len l
    by_cases h1 : 50 < (nodesF l).length
    · rw [if_pos h1] at hk
      have h1' : (50 : Int) < (nodesG l).length := by omega
      simp (disch := first | omega | (simp only [go_sem]; first | done | omega)) only [go_sem, decide_eq_true h1']
      exact Ret.same (Nat.le_refl _) hk
    rw [if_neg h1] at hk
    have h1' : ¬ (50 : Int) < (nodesG l).length := by omega
    simp (disch := first | omega | (simp only [go_sem]; first | done | omega)) only [go_sem, decide_eq_false h1']
    refine conflictR_a l hl ?_
    cases h2 : cfF [] l with
    | true =>
      rw [h2, if_pos rfl] at hk
      simp (disch := first | omega | (simp only [go_sem]; first | done | omega)) only [go_sem]
      exact Ret.same (Nat.le_refl _) hk
    | false =>
      rw [h2, if_neg (by simp)] at hk
      simp (disch := first | omega | (simp only [go_sem]; first | done | omega)) only [go_sem]
      exact Ret.same (Nat.le_refl _) hk
end Go.Proofs.YtflklkijfkmeiaaGreatDoor
