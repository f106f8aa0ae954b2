/- Several texts in one: The nodes of arrivals: as many whichever way they are counted, and what follows. No condition. -/
import Derived.Test.YtnodfnjmhcjnfaaGreatDoorHVArrC
import Derived.Shelf.Sort.Plain
import Derived.Test.YtnodfnjmhcjnfaaGreatDoorHVGA
import Derived.Test.YtnodfnjmhcjnfaaGreatDoorHVBack
import Derived.Test.YtnodfnjmhcjnfaaGreatDoorHVGD
import Derived.Test.YtnodfnjmhcjnfaaGreatDoorHVSortI
import Derived.Test.YtnodfnjmhcjnfaaGreatDoorHVNodeF
/- The nodes of arrivals: as many whichever way they are counted. No program in sight. -/
namespace Go.Proofs.YtnodfnjmhcjnfaaGreatDoor
open Go Go.RowKit
set_option maxRecDepth 100000
set_option linter.all false
set_option maxHeartbeats 1000000
theorem addN_mem {l : List ByteArray} {n x : ByteArray} : x ∈ addN l n ↔ x ∈ l ∨ x = n := by
  unfold addN
  split
  · rename_i h
    obtain ⟨m, hm, e⟩ := List.any_eq_true.1 h
    have e := of_decide_eq_true e
    subst e
    exact ⟨Or.inl, fun h => h.elim id (fun e => e ▸ hm)⟩
  · simp
theorem addN_nodup {l : List ByteArray} {n : ByteArray} (h : l.Nodup) : (addN l n).Nodup := by
  unfold addN
  split
  · exact h
  · rename_i hn
    refine List.nodup_append.2 ⟨h, by simp, ?_⟩
    intro a ha b hb e
    simp at hb
    subst hb; subst e
    exact hn (List.any_eq_true.2 ⟨a, ha, by simp⟩)
theorem nodesF_prop (l : List Arr) : (nodesF l).Nodup ∧ ∀ x, x ∈ nodesF l ↔ x ∈ l.map fun a => a.nd := by
  have key : ∀ (l : List Arr) (s : List ByteArray), s.Nodup → (l.foldl (fun s x => addN s x.nd) s).Nodup ∧ ∀ x, x ∈ l.foldl (fun s x => addN s x.nd) s ↔ x ∈ s ∨ x ∈ l.map fun a => a.nd := by
    intro l
    induction l with
    | nil => intro s h; exact ⟨h, fun x => by simp⟩
    | cons a t ih =>
      intro s h
      obtain ⟨h1, h2⟩ := ih (addN s a.nd) (addN_nodup h)
      refine ⟨h1, fun x => ?_⟩
      rw [List.foldl_cons, h2, addN_mem, List.map_cons, List.mem_cons, or_assoc]
  obtain ⟨h1, h2⟩ := key l [] List.nodup_nil
  exact ⟨h1, fun x => by rw [show nodesF l = l.foldl (fun s x => addN s x.nd) [] from rfl, h2]; simp⟩
end Go.Proofs.YtnodfnjmhcjnfaaGreatDoor
/- What is wrong with arrivals: the program's answer and the document's. Condition: names are not longer than a machine holds. -/
namespace Go.Proofs.YtnodfnjmhcjnfaaGreatDoor
open Go Go.RowKit
set_option maxRecDepth 100000
set_option linter.all false
set_option maxHeartbeats 1000000
variable {H : Hp} {K : AV → Hp → Prop}
def arS (p : Option Arr) (a : Arr) : Int := if arrErr a ≠ 0 then arrErr a else match p with | none => 0 | some b => if arrC a b ≤ 0 then 7 else 0
def arGo : Option Arr → List Arr → Int
  | _, [] => 0
  | p, a :: t => if arS p a ≠ 0 then arS p a else arGo (some a) t
def arF (l : List Arr) : Int := if 2000 < l.length then 2 else if arGo none l ≠ 0 then arGo none l else if 50 < (nodesF l).length then 2 else if cfF [] l = true then 13 else 0
def prevA (l : List Arr) (k : Nat) : Option Arr := if k = 0 then none else l[k - 1]?
theorem arGo_next {l : List Arr} {k : Nat} (h : k < l.length) : arGo (prevA l k) (l.drop k) = if arS (prevA l k) l[k] ≠ 0 then arS (prevA l k) l[k] else arGo (prevA l (k + 1)) (l.drop (k + 1)) := by
  rw [List.drop_eq_getElem_cons h, arGo]
  have : prevA l (k + 1) = some l[k] := by unfold prevA; rw [if_neg (by omega), Nat.add_sub_cancel, List.getElem?_eq_getElem h]
  rw [this]
theorem checkArrivals_a (l : List Arr) (hsz : ∀ x ∈ l, x.nd.size ≤ 1099511627776 ∧ x.p.tag.size ≤ 1099511627776) (hl : l.length ≤ 1000000) (hk : K (.c (.int .i64 (arF l))) H) : ACalls Tryz.prog 145 [.c (.lst 7 (l.map encAr))] H K := by
  unfold arF at hk
  by_cases h0 : 2000 < l.length
  · rw [if_pos h0] at hk
    have h0' : (2000 : Int) < l.length := by omega
    refine acalls Tryz.func145 rfl (by kernel_rfl) (by simp (disch := first | omega | (simp only [go_sem]; first | done | omega)) only [go_sem]) (fun hH => ?_)
    simp (disch := first | omega | (simp only [go_sem]; first | done | omega)) only [go_sem, decide_eq_true h0']
    exact Ret.same (Nat.le_refl _) hk
  rw [if_neg h0] at hk
  have h0' : ¬ (2000 : Int) < l.length := by omega
  refine acalls Tryz.func145 rfl (by kernel_rfl) (by simp (disch := first | omega | (simp only [go_sem]; first | done | omega)) only [go_sem]) (fun hH => ?_)
  simp (disch := first | omega | (simp only [go_sem]; first | done | omega)) only [go_sem, decide_eq_false h0']
  refine AWp.loop (H.length) [0, 9, 10] [11] (fun (k : Nat) => k ≤ l.length ∧ arGo (prevA l k) (l.drop k) = arGo none l) (fun (k : Nat) => [(11, (.c (.int .i64 k)))]) (fun (k : Nat) => H) (fun (k : Nat) => l.length - k) (by kernel_rfl) (fun _ => rfl) (by kernel_rfl) (by first | (simp; done) | omega) (by first | (simp; done) | (simp; omega) | omega) kl ?_ (fun k q _ _ => ?_)
  · refine Next.mk 0 ⟨Nat.zero_le _, rfl⟩ ?_
    exact wk
  obtain ⟨q1, q3⟩ := q
  by_cases hlt : k < l.length
  · obtain ⟨x, hx⟩ : ∃ x, x = l[k] := ⟨_, rfl⟩
    have hstep := arGo_next hlt
    rw [q3, ← hx] at hstep
    obtain ⟨z1, z2⟩ := hsz x (hx ▸ List.getElem_mem hlt)
    simp (disch := first | omega | (simp only [go_sem]; first | done | omega)) only [go_sem, hlt, ← hx]
    refine arrivalFault_a x z1 z2 ?_
    by_cases he : arrErr x = 0
    · by_cases hk0 : k = 0
      · subst hk0
        have e : arS (prevA l 0) x = 0 := by unfold arS prevA; simp [he]
        rw [e] at hstep
        simp (disch := first | omega | (simp only [go_sem]; first | done | omega)) only [go_sem, he]
        refine w_draw (by kernel_rfl) (by decide +kernel) ?_
        simp (disch := first | omega | (simp only [go_sem]; first | done | omega)) only [go_sem, he]
        refine Next.mk 1 ⟨⟨by omega, by rw [hstep]; rfl⟩, by omega⟩ ?_
        exact wk
      · obtain ⟨y, hy⟩ : ∃ y, y = l[k - 1] := ⟨_, rfl⟩
        have e : arS (prevA l k) x = if arrC x y ≤ 0 then 7 else 0 := by unfold arS prevA; rw [if_neg (by simp [he]), if_neg hk0, List.getElem?_eq_getElem (by omega), ← hy]
        rw [e] at hstep
        have hk1 : (0 : Int) < k := by omega
        have hix : ((k : Int) - 1).toNat = k - 1 := by omega
        simp (disch := first | omega | (simp only [go_sem]; first | done | omega)) only [go_sem, he]
        repeat' (first | ((first | refine acond_d ?_ ?_ | refine acond_b ?_ ?_ | refine ag_d ?_ ?_ | refine ag_n ?_ ?_ | refine ag_bt ?_ ?_ | refine ag_bf ?_ ?_) <;> intro c <;> try simp (disch := first | omega | (simp only [go_sem]; first | done | omega)) only [go_sem, c, decide_eq_true hk1, hix, ← hy, hlt]) | ((first | refine w_draw (by kernel_rfl) (by decide +kernel) ?_ | refine byTime_a x y ?_) <;> try simp (disch := first | omega | (simp only [go_sem]; first | done | omega)) only [go_sem, decide_eq_true hk1, hix, ← hy, hlt]))
        · rw [if_pos c, if_pos (by decide)] at hstep
          rw [hstep, if_pos (by decide)] at hk
          exact Ret.drop hH (Nat.le_refl _) trivial hk
        · rw [if_neg c, if_neg (by simp)] at hstep
          refine Next.mk (k + 1) ⟨⟨by omega, hstep.symm⟩, by omega⟩ ?_
          exact wk
    · have e : arS (prevA l k) x = arrErr x := by unfold arS; rw [if_pos he]
      rw [e, if_pos he] at hstep
      rw [hstep, if_pos he] at hk
      simp (disch := first | omega | (simp only [go_sem]; first | done | omega)) only [go_sem, he]
      exact Ret.drop hH (Nat.le_refl _) trivial hk
  · rw [List.drop_eq_nil_of_le (by omega)] at q3
    have q4 : arGo none l = 0 := by rw [← q3]; cases prevA l k <;> rfl
    rw [q4, if_neg (by simp)] at hk
    simp (disch := first | omega | (simp only [go_sem]; first | done | omega)) only [go_sem, hlt]
    refine crowded_a l hl ?_
    by_cases h1 : 50 < (nodesF l).length
    · rw [if_pos h1] at hk
      simp (disch := first | omega | (simp only [go_sem]; first | done | omega)) only [go_sem, decide_eq_true h1]
      exact Ret.same (Nat.le_refl _) hk
    rw [if_neg h1] at hk
    simp (disch := first | omega | (simp only [go_sem]; first | done | omega)) only [go_sem, decide_eq_false h1]
    refine conflict_a l hl ?_
    cases h2 : cfF [] l with
    | true =>
      rw [h2, if_pos rfl] at hk
      simp (disch := first | omega | (simp only [go_sem]; first | done | omega)) only [go_sem]
      exact Ret.same (Nat.le_refl _) hk
    | false =>
      rw [h2, if_neg (by simp)] at hk
      simp (disch := first | omega | (simp only [go_sem]; first | done | omega)) only [go_sem]
      exact Ret.same (Nat.le_refl _) hk
end Go.Proofs.YtnodfnjmhcjnfaaGreatDoor
/- Arrivals that are there twice: the document's answer. Condition: at most a million. -/
namespace Go.Proofs.YtnodfnjmhcjnfaaGreatDoor
open Go Go.RowKit
set_option maxRecDepth 100000
set_option linter.all false
set_option maxHeartbeats 1000000
variable {H : Hp} {K : AV → Hp → Prop}
def isD (l : List Arr) (i : Nat) : Bool := match l[i]? with | some x => (l.take i).any (fun b => sameK x b) | none => false
end Go.Proofs.YtnodfnjmhcjnfaaGreatDoor
