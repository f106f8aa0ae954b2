/- The document's kidsOf. Condition: the calculated tags are right. -/
import Derived.Test.YtagoolooikpabaaGreatDoorHVTgO
import Derived.Test.YtagoolooikpabaaGreatDoorHVClM
set_option linter.all false
namespace Go.Proofs.YtagoolooikpabaaGreatDoor
open Go Go.RowKit
set_option maxRecDepth 100000
set_option maxHeartbeats 4000000
variable {H : Hp} {K : AV → Hp → Prop}
theorem nC_nm {cs : List Cal} {t : ByteArray} : nC cs t ↔ t ∉ nmC cs := by
 unfold nC nmC
 rw [List.mem_map]
 exact ⟨fun h => fun ⟨x, hx, e⟩ => h x hx e, fun h x hx e => h ⟨x, hx, e⟩⟩
theorem noKid_a {cs : List Cal} (hl : cs.length ≤ 1000) {b : Nat} (hb : H[b]? = some (.row 26 1 [[.lst 2 (cs.map encCl)]] true)) (s : ByteArray) (hk : K (.c (.bool (!decide (s ∈ nmC cs)))) H) : ACalls Tryz.prog 115 [(.c (.str s)), .c (.ptr (some (b, 0, 0)))] H K := by
 have hbl := getElem?_lt hb
 refine acalls Tryz.func115 rfl (by kernel_rfl) (by simp (disch := first | omega | (simp only [go_sem]; try omega)) only [go_sem]) (fun hH => ?_)
 simp (disch := first | omega | (simp only [go_sem]; try omega)) only [go_sem, hb]
 refine calAt_a cs s (by omega) (fun h => ?_) (fun k h1 h2 _ => ?_)
 ·rw [decide_eq_false (nC_nm.1 h)] at hk
  simp (disch := first | omega | (simp only [go_sem]; try omega)) only [go_sem]
  exact Ret.same (Nat.le_refl _) hk
 ·have hm : s ∈ nmC cs := by rw [← h2]; exact nmC_mem (List.getElem_mem h1)
  rw [decide_eq_true hm] at hk
  simp (disch := first | omega | (simp only [go_sem]; try omega)) only [go_sem]
  exact Ret.same (Nat.le_refl _) hk
theorem kidsOf_a {cs : List Cal} (hF : clF cs = 0) (hs : ∀ x ∈ cs, x.fine) (t : ByteArray) (ht : t ∈ nmC cs) (hk : K (.c (.lst 1 ((kidC cs t).map encSs))) H) : ACalls Tryz.prog 64 [.c (.lst 2 (cs.map encCl)), (.c (.str t))] H K := by
 have hl := (clF_ok hF).1
 refine acalls Tryz.func64 rfl (by kernel_rfl) (by simp (disch := first | omega | (simp only [go_sem]; try omega)) only [go_sem]) (fun hH => ?_)
 simp (disch := first | omega | (simp only [go_sem]; try omega)) only [go_sem]
 refine calAt_a cs t (by omega) (fun h => absurd ht (nC_nm.1 h)) (fun k h1 h2 _ => ?_)
 have hf := find_at hF h1
 rw [h2] at hf
 have hx := List.getElem_mem h1
 have hp := ((clF_ok hF).2.1 _ hx).2
 have hsz : (tL cs[k].ex).length ≤ 1000000 := (hs _ hx).2
 have hkc : kidC cs t = (tagsE (exC cs[k])).filter fun k => decide (k ∈ nmC cs) := by unfold kidC; rw [hf]
 rw [hkc] at hk
 obtain ⟨ok1, ok2⟩ := exC_ok hF hx
 have htl := tagsE_lenC (exC cs[k])
 simp (disch := first | omega | (simp only [go_sem]; try omega)) only [go_sem, h1]
 refine tagsInO_a (tL cs[k].ex) hsz (exC cs[k]) hp ?_
 simp (disch := first | omega | (simp only [go_sem]; try omega)) only [go_sem]
 have hb : ∀ G : Hp, (H ++ .row 26 1 [[.lst 2 (cs.map encCl)]] true :: G)[H.length]? = some (.row 26 1 [[.lst 2 (cs.map encCl)]] true) := fun G => by simp
 refine delxGrTg_a _ [(H.length, 0, 0)] (fun k => !decide (k ∈ nmC cs)) (by kernel_rfl) (by intro p q r h; simp at h; simp; omega) (tagsE (exC cs[k])) (by simp) (fun G s K hG _ hK => noKid_a (by omega) (b := H.length) ?_ s hK) (by omega) ?_
 ·rw [hG H.length (by simp) (by omega)]; exact hb _
 simp (disch := first | omega | (simp only [go_sem]; try omega)) only [go_sem]
 exact Ret.cut hH (Nat.le_refl _) trivial (Ret.same (Nat.le_refl _) hk)
end Go.Proofs.YtagoolooikpabaaGreatDoor
