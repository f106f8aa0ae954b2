/- The closures of OrderIsPossible. Condition: the calculated tags are right. -/
import Derived.Test.YtagoolooikpabaaGreatDoorHVClM
import Derived.Test.YtagoolooikpabaaGreatDoorHVHaS
set_option linter.all false
namespace Go.Proofs.YtagoolooikpabaaGreatDoor
open Go Go.RowKit
set_option maxRecDepth 100000
set_option maxHeartbeats 4000000
variable {H : Hp} {K : AV → Hp → Prop}
theorem ixAtS_a (l : List ByteArray) (x : ByteArray) (hlen : l.length ≤ 1099511627776) (hk0 : x ∉ l → K (.c (.int .i64 (-1))) H) (hk1 : ∀ (k : Nat) (h : k < l.length), l[k] = x → K (.c (.int .i64 k)) H) : ACalls Tryz.prog 38 [.c (.lst 1 (l.map encSs)), (.c (.str x))] H K := by
 refine acalls Tryz.func38 rfl (by kernel_rfl) (by simp (disch := first | omega | (simp only [go_sem]; try omega)) only [go_sem]) (fun hH => ?_)
 simp (disch := first | omega | (simp only [go_sem]; try omega)) only [go_sem]
 refine AWp.loop (H.length) [0, 1, 7] [8] (fun (k : Nat) => k ≤ l.length ∧ ∀ j (h : j < l.length), j < k → l[j] ≠ x) (fun (k : Nat) => [(8, (.c (.int .i64 k)))]) (fun (k : Nat) => H) (fun (k : Nat) => l.length - k) (by kernel_rfl) (fun _ => rfl) (by kernel_rfl) (by first | (simp; done) | omega) (by first | (simp; done) | (simp; omega) | omega) kl ?_ (fun k hk1 _ _ => ?_)
 ·exact Next.mk 0 (by simp) wk
 obtain ⟨hq1, hq2⟩ := hk1
 by_cases hlt : k < l.length
 ·simp (disch := first | omega | (simp only [go_sem]; try omega)) only [go_sem]
  refine acond_d (fun c => ?_) (fun c => ?_)
  ·have c2 : l[k] = x := by first | exact c | exact c.symm | exact of_decide_eq_true c
   simp (disch := first | omega | (simp only [go_sem]; try omega)) only [go_sem]
   exact Ret.same (Nat.le_refl _) (hk1 k hlt c2)
  ·have c2 : l[k] ≠ x := by first | exact c | exact Ne.symm c | exact fun e => c e.symm
   simp (disch := first | omega | (simp only [go_sem]; try omega)) only [go_sem]
   refine Next.mk (k + 1) ⟨⟨by omega, fun j h hj => ?_⟩, by omega⟩ wk
   rcases Nat.lt_or_ge j k with h1 | h1
   ·exact hq2 j h h1
   ·obtain rfl : j = k := by omega
    exact c2
 ·simp (disch := first | omega | (simp only [go_sem]; try omega)) only [go_sem]
  refine Ret.same (Nat.le_refl _) (hk0 ?_)
  intro hx
  obtain ⟨j, hj, e⟩ := List.getElem_of_mem hx
  exact hq2 j hj (by omega) e
theorem tgs1_a {cs : List Cal} (hF : clF cs = 0) (hs : ∀ x ∈ cs, x.fine) {b : Nat} (hb : H[b]? = some (.row 26 1 [[.lst 2 (cs.map encCl)]] true)) (t : ByteArray) (hk : K (.c (.lst 1 ((tgC cs t).map encSs))) H) : ACalls Tryz.prog 32 [(.c (.str t)), .c (.ptr (some (b, 0, 0)))] H K := by
 have hbl := getElem?_lt hb
 have hbe : H[b] = .row 26 1 [[.lst 2 (cs.map encCl)]] true := by rw [List.getElem?_eq_getElem hbl] at hb; exact Option.some.inj hb
 have hcl := (clF_ok hF).1
 refine acalls Tryz.func32 rfl (by kernel_rfl) (by simp (disch := first | omega | (simp only [go_sem]; try omega)) only [go_sem]) (fun hH => ?_)
 simp (disch := first | omega | (simp only [go_sem]; try omega)) only [go_sem, hbe]
 refine calAt_a cs t (by omega) (fun hn => ?_) (fun k hk1 hk2 hk3 => ?_)
 ·have e : tgC cs t = [] := by
   unfold tgC
   rw [find_none (fun hm => ?_)]
   obtain ⟨x, hx, e⟩ := List.mem_map.1 hm
   exact hn x hx e
  rw [e] at hk
  simp (disch := first | omega | (simp only [go_sem]; try omega)) only [go_sem]
  exact Ret.nil [1] (Nat.le_refl _) (Ret.same (Nat.le_refl _) hk)
 ·have hf := find_at hF hk1
  rw [hk2] at hf
  have e : tgC cs t = tagsE (exC cs[k]) := by unfold tgC; rw [hf]
  rw [e] at hk
  obtain ⟨ex, he⟩ : ∃ ex, cs[k].ex = tB ex := ⟨tL cs[k].ex, rfl⟩
  have hp := ((clF_ok hF).2.1 _ (List.getElem_mem hk1)).2
  have hfn := (hs _ (List.getElem_mem hk1)).2
  rw [he, tL_tB] at hp
  rw [he, tB_size] at hfn
  simp (disch := first | omega | (simp only [go_sem]; try omega)) only [go_sem, hbe, he]
  refine tagsP_a ex (by omega) (fun a c h => par_neC h) (fun e' he' => ?_) (fun a c h' => by rw [hp] at h'; cases h')
  rw [hp] at he'
  injection he' with he'
  subst he'
  simp (disch := first | omega | (simp only [go_sem]; try omega)) only [go_sem]
  exact Ret.same (Nat.le_refl _) hk
theorem aft1_a {o : List ByteArray} (hn : o.Nodup) (hl : o.length ≤ 1000) {i j : Nat} (hij : i < j) (hj : j < o.length) {a b : Nat} (ha : H[a]? = some (.row 29 1 [[.lst 1 (o.map encSs)]] true)) (hb : H[b]? = some (.row 3 1 [[.int .i64 i]] true)) (hk : K (.c (.bool false)) H) : ACalls Tryz.prog 37 [(.c (.str (o[j]))), .c (.ptr (some (a, 0, 0))), .c (.ptr (some (b, 0, 0)))] H K := by
 refine acalls Tryz.func37 rfl (by kernel_rfl) (by simp (disch := first | omega | (simp only [go_sem]; try omega)) only [go_sem]) (fun hH => ?_)
 simp (disch := first | omega | (simp only [go_sem]; try omega)) only [go_sem, ha, hb]
 refine w_tree (.one 0 (.one 1 (.two 2 (.one 3 (.one 4 (.one 5 .done))) 3 (.one 2 (.one 4 (.one 5 .done)))))) (by kernel_rfl) (by decide +kernel) ?_
 simp (disch := first | omega | (simp only [go_sem]; try omega)) only [go_sem, ha, hb]
 repeat' first | (refine ixAtS_a o o[j] (by omega) (fun h => absurd (List.getElem_mem hj) h) (fun k hk1 hk2 => ?_); have hle : ¬ ((k : Int) ≤ (i : Int)) := (by have := (List.getElem_inj hn).1 hk2; omega); simp (disch := first | omega | (simp only [go_sem]; try omega)) only [go_sem, ha, hb, hle]) | (exact Ret.same (Nat.le_refl _) hk) | apply And.intro
end Go.Proofs.YtagoolooikpabaaGreatDoor
