/- What a tag is by its series, and what an expression comes to: the document. Condition: lists are not huge. -/
import Derived.Test.YtagoolooikpabaaGreatDoorHVEwr
import Derived.Test.YtagoolooikpabaaGreatDoorHVEvT
set_option linter.all false
namespace Go.Proofs.YtagoolooikpabaaGreatDoor
open Go Go.RowKit
set_option maxRecDepth 100000
set_option maxHeartbeats 4000000
variable {H : Hp} {K : AV → Hp → Prop}
theorem serL_step (l : List Ser) (t : ByteArray) (i : Nat) (h : i < l.length) : serL (l.take (i + 1)) t = serL (l.take i) t ++ if l[i].tg = t then l[i].l else [] := by
 unfold serL
 rw [List.take_succ_eq_append_getElem h, List.filter_append, List.map_append, List.flatten_append]
 congr 1
 by_cases e : l[i].tg = t
 ·rw [if_pos e, List.filter_cons_of_pos (by simpa using e)]
  simp
 ·rw [if_neg e, List.filter_cons_of_neg (by simpa using e)]
  simp
theorem recorded_a (l : List Ser) (t : ByteArray) (m : Int) (hlen : l.length ≤ 1000000) (hs : ∀ x ∈ l, x.l.length ≤ 1000000000) (hk : K (.agg (encV (lookP l t m))) H) : ACalls Tryz.prog 137 [.c (.lst 2 (l.map encSr)), (.c (.str t)), (.c (.int .i64 m))] H K := by
 refine acalls Tryz.func137 rfl (by kernel_rfl) (by simp (disch := first | omega | (simp only [go_sem]; try omega)) only [go_sem]) (fun hH => ?_)
 simp (disch := first | omega | (simp only [go_sem]; try omega)) only [go_sem]
 refine badD_a ?_
 simp (disch := first | omega | (simp only [go_sem]; try omega)) only [go_sem]
 refine AWp.loop (H.length + 2) [1, 2, 6, 7, 13, 14] [15] (fun (i : Nat) => i ≤ l.length) (fun (i : Nat) => [(15, (.c (.int .i64 i)))]) (fun (i : Nat) => H ++ [.row 126 2 [[.int .i64 0, .int .i64 0]] true, .row 126 2 [encV (vlS (lastS (serL (l.take i) t) m))] true]) (fun (i : Nat) => l.length - i) (by kernel_rfl) (fun _ => rfl) (by kernel_rfl) (by first | (simp; done) | omega) (by first | (simp; done) | (simp; omega) | omega) kl ?_ (fun i hi1 _ _ => ?_)
 ·refine Next.mk 0 (by omega) ?_
  exact wk
 by_cases hlt : i < l.length
 ·have hst := serL_step l t i hlt
  have hsl := hs l[i] (List.getElem_mem hlt)
  obtain ⟨x, hx⟩ : ∃ x, x = l[i] := ⟨_, rfl⟩
  rw [← hx] at hst hsl
  generalize serL (l.take i) t = us at *
  simp (disch := first | omega | (simp only [go_sem]; try omega)) only [go_sem, hlt, ← hx]
  refine AWp.loop (H.length + 3) [1, 2, 6, 7, 9, 13, 14, 15, 20, 21] [22] (fun (j : Nat) => j ≤ x.l.length) (fun (j : Nat) => [(22, (.c (.int .i64 j)))]) (fun (j : Nat) => H ++ [.row 126 2 [[.int .i64 0, .int .i64 0]] true, .row 126 2 [encV (vlS (lastS (us ++ if x.tg = t then x.l.take j else []) m))] true, .row 105 2 [encSr x] true]) (fun (j : Nat) => x.l.length - j) (by kernel_rfl) (fun _ => rfl) (by kernel_rfl) (by first | (simp; done) | omega) (by first | (simp; done) | (simp; omega) | omega) kl ?_ (fun j hj1 _ _ => ?_)
  ·refine Next.mk 0 (by omega) ?_
   have e0 : (if x.tg = t then x.l.take 0 else []) = [] := by split <;> rfl
   rw [e0, List.append_nil]
   exact wk
  by_cases hlj : j < x.l.length
  ·have htk : x.l.take (j + 1) = x.l.take j ++ [x.l[j]] := List.take_succ_eq_append_getElem hlj
   by_cases ht : x.tg = t
   ·have hsn := lastS_snoc (us ++ x.l.take j) x.l[j] m
    simp only [if_pos ht]
    by_cases hm : x.l[j].t ≤ m
    ·rw [if_pos hm] at hsn
     simp (disch := first | omega | (simp only [go_sem]; try omega)) only [go_sem, hlj, ht, hm]
     refine Next.mk (j + 1) ⟨by omega, by omega⟩ ?_
     rw [htk, ← List.append_assoc, hsn]
     exact wk
    ·rw [if_neg hm] at hsn
     simp (disch := first | omega | (simp only [go_sem]; try omega)) only [go_sem, hlj, ht, hm]
     refine Next.mk (j + 1) ⟨by omega, by omega⟩ ?_
     rw [htk, ← List.append_assoc, hsn]
     exact wk
   ·simp only [if_neg ht]
    simp (disch := first | omega | (simp only [go_sem]; try omega)) only [go_sem, hlj, ht]
    refine Next.mk (j + 1) ⟨by omega, by omega⟩ ?_
    exact wk
  ·have hje : j = x.l.length := by omega
   subst hje
   have etk : x.l.take x.l.length = x.l := List.take_length
   rw [etk, ← hst]
   simp (disch := first | omega | (simp only [go_sem]; try omega)) only [go_sem, hlj]
   refine Next.mk (i + 1) ⟨by omega, by omega⟩ ?_
   exact wk
 ·have hie : i = l.length := by omega
  subst hie
  rw [List.take_of_length_le (Nat.le_refl _)]
  have hk : K (.agg (encV (vlS (lastS (serL l t) m)))) H := hk
  simp (disch := first | omega | (simp only [go_sem]; try omega)) only [go_sem, hlt]
  exact Ret.drop hH (Nat.le_refl _) (by simp [AV.ok, AV.ok1, AC.ok]) hk
end Go.Proofs.YtagoolooikpabaaGreatDoor
