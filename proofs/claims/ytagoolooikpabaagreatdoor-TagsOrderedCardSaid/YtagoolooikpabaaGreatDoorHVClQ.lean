/- Several texts in one: The document's closed and CycleOf, and what follows. No condition. -/
import Derived.Test.YtagoolooikpabaaGreatDoorHVKiQ
import Derived.Test.YtagoolooikpabaaGreatDoorHVHaS
set_option linter.all false
namespace Go.Proofs.YtagoolooikpabaaGreatDoor
open Go Go.RowKit
set_option maxRecDepth 100000
set_option maxHeartbeats 4000000
section
variable {H : Hp} {K : AV → Hp → Prop}
theorem cloneCx_a (l : List ByteArray) (hl : l.length ≤ 1099511627776) (hk : K (.c (clV H.length 1 (l.map encSs))) (H ++ [grO 9 1 (l.map encSs)])) : ACalls Tryz.prog 116 [.c (.lst 1 (l.map encSs))] H K := by
 cases l with
 | nil =>
  refine acalls Tryz.func116 rfl (by kernel_rfl) (by simp (disch := first | omega | (simp only [go_sem]; try omega)) only [go_sem]) (fun hH => ?_)
  simp (disch := first | omega | (simp only [go_sem]; try omega)) only [go_sem]
  refine asome_i (fun b _ => ?_)
  cases b
  ·simp (disch := first | omega | (simp only [go_sem]; try omega)) only [go_sem]
   refine app_lst ?_
   simp (disch := first | omega | (simp only [go_sem]; try omega)) only [go_sem]
   exact Ret.nil [1] (by simp) (Ret.cut hH (Nat.le_refl _) trivial (Ret.pad (Nat.le_refl _) (Ret.same (by simp) hk)))
  ·simp (disch := first | omega | (simp only [go_sem]; try omega)) only [go_sem]
   exact Ret.nil [1] (by simp) (Ret.pad (Nat.le_refl _) (Ret.same (by simp) hk))
 | cons x xs =>
  refine acalls Tryz.func116 rfl (by kernel_rfl) (by simp (disch := first | omega | (simp only [go_sem]; try omega)) only [go_sem]) (fun hH => ?_)
  simp (disch := first | omega | (simp only [go_sem]; try omega)) only [go_sem]
  refine asome_i (fun b hb => ?_)
  subst hb
  simp (disch := first | omega | (simp only [go_sem]; try omega)) only [go_sem]
  refine app_lst ?_
  simp only [List.length_cons] at hl
  simp (disch := first | omega | (simp only [go_sem]; try omega)) only [go_sem]
  refine Ret.pick [1] hH (Nat.le_refl _) (L := [.row 9 1 ((x :: xs).map encSs) true]) rfl (by simp) (by simp [AObj.pureO, pureL, encSs, AC.pure]) (v' := .c (.sl (some (H.length, 0)) (xs.length + 1))) ?_ (by simp [AV.ok, AV.ok1, AC.ok]) (by simpa [clV, grO] using hk)
  simp [AV.ren, AV.ren1, AC.ren, pickS]
end
theorem findSome_at {α β : Type} {g : α → Option β} {y : β} : ∀ {l : List α} {k : Nat} (hk : k < l.length), (∀ j (h : j < l.length), j < k → g l[j] = none) → g l[k] = some y → l.findSome? g = some y
 | [], k, hk, _, _ => absurd hk (by simp)
 | a :: l, 0, hk, _, hs => by simp only [List.getElem_cons_zero] at hs; rw [List.findSome?_cons, hs]
 | a :: l, k + 1, hk, h, hs => by
  have h0 := h 0 (by simp) (by omega)
  simp only [List.getElem_cons_zero] at h0
  rw [List.findSome?_cons, h0]
  exact findSome_at (by simpa using hk) (fun j hj hjk => h (j + 1) (by simpa using hj) (by omega)) hs
theorem findSome_no {α β : Type} {g : α → Option β} {l : List α} (h : ∀ j (h : j < l.length), g l[j] = none) : l.findSome? g = none := by
 rw [List.findSome?_eq_none_iff]
 intro x hx
 obtain ⟨j, hj, rfl⟩ := List.getElem_of_mem hx
 exact h j hj
theorem closG_ne {kids : Nme → List Nme} {n : Nat} {x : Nme} : ∀ (f : Nat) (row : List Nme) (last : Nme) (l : List Nme), row ≠ [] → closG kids n f row x last = some l → l ≠ []
 | 0, row, last, l, hr, h => by
  unfold closG at h
  split at h
  ·injection h with h; rw [← h]; exact hr
  ·cases h
 | f + 1, row, last, l, hr, h => by
  unfold closG at h
  obtain ⟨k, _, g⟩ := List.exists_of_findSome?_eq_some h
  split at g
  ·exact closG_ne f _ _ _ (by simp) g
  ·cases g
def clsV (o : Option (List Nme)) : AV := match o with
 | some l => .c (.lst 1 (l.map encSs))
 | none => .c (.sl none 0)
theorem closed_a {cs : List Cal} (hF : clF cs = 0) (hs : ∀ x ∈ cs, x.fine) (n : Nat) (hn : n ≤ 1000) (x : Nme) : ∀ (f : Nat) (r0 : List Nme) (last : Nme) (row : List Nme), r0 ++ [last] = row → (∀ h : 0 < row.length, row[0] = x) → last ∈ nmC cs → row.length + f = n → ∀ {H : Hp} {K : AV → Hp → Prop}, K (clsV (closG (kidC cs) n f row x last)) H → ACalls Tryz.prog 66 [.c (.lst 2 (cs.map encCl)), .c (.lst 1 (row.map encSs)), (.c (.int .i64 n))] H K
 | 0, r0, last, row, hr, hx, hla, hl, H, K, hk => by
  have hrl : row.length = r0.length + 1 := by rw [← hr]; simp
  have hge : ∀ h : r0.length < row.length, row[r0.length] = last := fun h => by subst hr; simp
  have hx0 := hx (by omega)
  have hkl := kidC_len hF last
  have hnr : (n : Int) = r0.length + 1 := by omega
  have hz : ((r0.length + 1 : Nat) - 1 : Int).toNat = r0.length := by omega
  unfold closG at hk
  refine acalls Tryz.func66 rfl (by kernel_rfl) (by simp (disch := first | omega | (simp only [go_sem]; try omega)) only [go_sem]) (fun hH => ?_)
  simp (disch := first | omega | (simp only [go_sem]; try omega)) only [go_sem, hrl, hz, hge]
  refine kidsOf_a hF hs last hla ?_
  simp (disch := first | omega | (simp only [go_sem]; try omega)) only [go_sem, hrl, hge, hx0, hnr]
  refine hasSx_a (kidC cs last) x (by omega) ?_
  by_cases hm : x ∈ kidC cs last
  ·rw [if_pos hm] at hk
   simp only [hm, decide_true]
   simp (disch := first | omega | (simp only [go_sem]; try omega)) only [go_sem]
   exact Ret.same (Nat.le_refl _) hk
  ·rw [if_neg hm] at hk
   simp only [hm, decide_false]
   simp (disch := first | omega | (simp only [go_sem]; try omega)) only [go_sem]
   exact Ret.same (Nat.le_refl _) hk
 | f + 1, r0, last, row, hr, hx, hla, hl, H, K, hk => by
  have hrl : row.length = r0.length + 1 := by rw [← hr]; simp
  have hge : ∀ h : r0.length < row.length, row[r0.length] = last := fun h => by subst hr; simp
  have hx0 := hx (by omega)
  have hkl := kidC_len hF last
  have hnr : (n : Int) = r0.length + 1 + (f + 1) := by omega
  have hz : ((r0.length + 1 : Nat) - 1 : Int).toNat = r0.length := by omega
  have hcmp : ¬ ((r0.length + 1 : Nat) : Int) = r0.length + 1 + (f + 1) := by omega
  have hrn : row ≠ [] := by intro e; rw [e] at hrl; simp at hrl
  unfold closG at hk
  generalize hg : (fun k => if ltN x k ∧ k ∉ row then closG (kidC cs) n f (row ++ [k]) x k else none) = g at hk
  have hkm : ∀ k ∈ kidC cs last, k ∈ nmC cs := fun k h => kidC_mem h
  refine acalls Tryz.func66 rfl (by kernel_rfl) (by simp (disch := first | omega | (simp only [go_sem]; try omega)) only [go_sem]) (fun hH => ?_)
  simp (disch := first | omega | (simp only [go_sem]; try omega)) only [go_sem, hrl, hz, hge]
  refine kidsOf_a hF hs last hla ?_
  generalize kidC cs last = ks at *
  simp (disch := first | omega | (simp only [go_sem]; try omega)) only [go_sem, hrl, hz, hge, hx0, hnr, hcmp]
  refine AWp.loop (H.length) [0, 1, 2, 29, 30] [31] (fun (k : Nat) => k ≤ ks.length ∧ ∀ j (h : j < ks.length), j < k → g ks[j] = none) (fun (k : Nat) => [(31, (.c (.int .i64 k)))]) (fun (k : Nat) => H) (fun (k : Nat) => ks.length - k) (by kernel_rfl) (fun _ => rfl) (by kernel_rfl) (by first | (simp; done) | omega) (by first | (simp; done) | (simp; omega) | omega) kl ?_ (fun k hk1 _ _ => ?_)
  ·exact Next.mk 0 (by simp) wk
  obtain ⟨hk1, hk2⟩ := hk1
  by_cases hlt : k < ks.length
  ·obtain ⟨y, hy⟩ : ∃ y, y = ks[k] := ⟨_, rfl⟩
   have hyk : ks[k]'hlt = y := hy.symm
   have hym : y ∈ nmC cs := by rw [hy]; exact hkm _ (List.getElem_mem hlt)
   have hgy : g y = if ltN x y ∧ y ∉ row then closG (kidC cs) n f (row ++ [y]) x y else none := by rw [← hg]
   have hc1 : leS y x = !decide (ltN x y) := by
    have := ordS_flip y x
    rw [leS_ord, Bool.eq_iff_iff, Bool.not_eq_true', decide_eq_false_iff_not, decide_eq_true_eq]
    unfold ltN
    omega
   have hnext : ∀ h : g y = none, ∀ j (h : j < ks.length), j < k + 1 → g ks[j] = none := fun h j hj hjk => by
    rcases Nat.lt_or_ge j k with h1 | h1
    ·exact hk2 j hj h1
    ·obtain rfl : j = k := by omega
     rw [hyk]; exact h
   by_cases hm : ltN x y
   ·simp only [hm, decide_true, Bool.not_true, true_and] at hc1 hgy
    simp (disch := first | omega | (simp only [go_sem]; try omega)) only [go_sem, hlt, hyk, hx0, hc1]
    refine hasSx_a row y (by omega) ?_
    by_cases hm2 : y ∈ row
    ·simp only [hm2, decide_true, not_true_eq_false, if_false] at hgy ⊢
     simp (disch := first | omega | (simp only [go_sem]; try omega)) only [go_sem]
     exact Next.mk (k + 1) ⟨⟨by omega, hnext hgy⟩, by omega⟩ wk
    ·simp only [hm2, decide_false, not_false_eq_true, if_true] at hgy ⊢
     simp (disch := first | omega | (simp only [go_sem]; try omega)) only [go_sem, hlt, hyk]
     refine cloneCx_a row (by omega) ?_
     simp (disch := first | omega | (simp only [go_sem]; try omega)) only [go_sem, hyk]
     have hcv : clV H.length 1 (row.map encSs) = grV H.length row := by
      cases row with
      | nil => exact absurd rfl hrn
      | cons a t => simp [clV, grV]
     rw [hcv]
     refine appSs row y _ rfl (by first | ((repeat first | exact at0 (by simp) | refine atS ?_); done) | assumption) (by first | ((repeat first | exact at0 (by simp) | refine atS ?_); done) | assumption) (by omega) ?_
     simp (disch := first | omega | (simp only [go_sem]; try omega)) only [go_sem]
     rw [grO_pos _ _ (by simp)]
     refine ACalls.frz (i := H.length + 2) (ty := 9) (sz := 1) (els := (row ++ [y]).map encSs) (own := true) (by simp) (pureL_map _ (fun x => by simp [go_sem, AC.pure])) ?_
     have e : [AV.c (.lst 2 (cs.map encCl)), AV.c (.sl (some (H.length + 2, 0)) (row.length + 1)), (.c (.int .i64 (↑r0.length + 1 + (↑f + 1))))].map (AV.frz1 (H.length + 2) 1 ((row ++ [y]).map encSs)) = [.c (.lst 2 (cs.map encCl)), .c (.lst 1 ((row ++ [y]).map encSs)), (.c (.int .i64 n))] := by
      rw [hnr]
      simp [AV.frz1, AC.frz]
      exact List.take_of_length_le (by simp)
     rw [e]
     refine closed_a hF hs n hn x f row y (row ++ [y]) rfl (fun h => ?_) hym (by simp; omega) ?_
     ·rw [List.getElem_append_left (by omega)]
      exact hx0
     rw [← hgy]
     cases hgv : g y with
     | none =>
      simp only [clsV]
      simp (disch := first | omega | (simp only [go_sem]; try omega)) only [go_sem]
      exact Next.mk (k + 1) ⟨⟨by omega, hnext hgv⟩, by omega⟩ wk
     | some l =>
      have hfs : ks.findSome? g = some l := findSome_at hlt hk2 (by rw [hyk]; exact hgv)
      have hln : l ≠ [] := by
       rw [hgv] at hgy
       exact closG_ne f (row ++ [y]) y l (by simp) hgy.symm
      rw [hfs] at hk
      simp only [clsV] at hk ⊢
      simp (disch := first | omega | (simp only [go_sem]; try omega)) only [go_sem]
      refine asome_i (fun b hb => ?_)
      have hb := hb (by simpa using hln)
      subst hb
      simp (disch := first | omega | (simp only [go_sem]; try omega)) only [go_sem]
      exact Ret.drop hH (Nat.le_refl _) (by simp [AV.ok, AV.ok1, AC.ok]) hk
   ·simp only [hm, decide_false, Bool.not_false, false_and, if_false] at hc1 hgy
    simp (disch := first | omega | (simp only [go_sem]; try omega)) only [go_sem, hlt, hyk, hx0, hc1]
    exact Next.mk (k + 1) ⟨⟨by omega, hnext hgy⟩, by omega⟩ wk
  ·have hn : ks.findSome? g = none := findSome_no (fun j hj => hk2 j hj (by omega))
   rw [hn] at hk
   simp (disch := first | omega | (simp only [go_sem]; try omega)) only [go_sem]
   exact Ret.same (Nat.le_refl _) hk
end Go.Proofs.YtagoolooikpabaaGreatDoor
namespace Go.Proofs.YtagoolooikpabaaGreatDoor
open Go Go.RowKit
set_option maxRecDepth 100000
set_option maxHeartbeats 4000000
variable {H : Hp} {K : AV → Hp → Prop}
theorem cycleOf_a {cs : List Cal} (hF : clF cs = 0) (hs : ∀ x ∈ cs, x.fine) (hk : K (.c (.lst 1 ((cycG (nmC cs) (kidC cs)).map encSs))) H) : ACalls Tryz.prog 15 [.c (.lst 2 (cs.map encCl))] H K := by
 have hcl := (clF_ok hF).1
 have hnl : (nmC cs).length = cs.length := by unfold nmC; rw [List.length_map]
 have hgl : ∀ k (h : k < (nmC cs).length) (h2 : k < cs.length), (nmC cs)[k] = cs[k].tg := fun k h h2 => by simp only [nmC, List.getElem_map]
 generalize hG : (fun n => cycN (nmC cs) (kidC cs) n) = g
 have hcy : cycG (nmC cs) (kidC cs) = ((List.range' 1 cs.length).findSome? g).getD [] := by unfold cycG; rw [hnl, hG]
 rw [hcy] at hk
 refine acalls Tryz.func15 rfl (by kernel_rfl) (by simp (disch := first | omega | (simp only [go_sem]; try omega)) only [go_sem]) (fun hH => ?_)
 simp (disch := first | omega | (simp only [go_sem]; try omega)) only [go_sem]
 refine AWp.loop (H.length) [0] [3] (fun (m : Nat) => m ≤ cs.length ∧ ∀ j, j < m → g (j + 1) = none) (fun (m : Nat) => [(3, (.c (.int .i64 (m + 1))))]) (fun (m : Nat) => H) (fun (m : Nat) => cs.length - m) (by kernel_rfl) (fun _ => rfl) (by kernel_rfl) (by first | (simp; done) | omega) (by first | (simp; done) | (simp; omega) | omega) kl ?_ (fun m hm1 _ _ => ?_)
 ·exact Next.mk 0 ⟨by omega, fun j hj => by omega⟩ wk
 obtain ⟨hm1, hm2⟩ := hm1
 have hrg : ∀ j (h : j < (List.range' 1 cs.length).length), (List.range' 1 cs.length)[j] = j + 1 := fun j h => by rw [List.getElem_range']; omega
 by_cases hlt : m < cs.length
 ·have hle : ((m : Int) + 1 ≤ cs.length) := by omega
  have hgm : g (m + 1) = (nmC cs).findSome? fun x => closG (kidC cs) (m + 1) m [x] x x := by rw [← hG]; rfl
  simp (disch := first | omega | (simp only [go_sem]; try omega)) only [go_sem, hle]
  refine AWp.loop (H.length) [0, 3, 13, 14] [15] (fun (k : Nat) => k ≤ cs.length ∧ ∀ j (h : j < cs.length), j < k → closG (kidC cs) (m + 1) m [cs[j].tg] cs[j].tg cs[j].tg = none) (fun (k : Nat) => [(15, (.c (.int .i64 k)))]) (fun (k : Nat) => H) (fun (k : Nat) => cs.length - k) (by kernel_rfl) (fun _ => rfl) (by kernel_rfl) (by first | (simp; done) | omega) (by first | (simp; done) | (simp; omega) | omega) kl ?_ (fun k hk1 _ _ => ?_)
  ·exact Next.mk 0 (by simp) wk
  obtain ⟨hk1, hk2⟩ := hk1
  by_cases hlk : k < cs.length
  ·obtain ⟨y, hy⟩ : ∃ y, y = cs[k] := ⟨_, rfl⟩
   have hyk : cs[k]'hlk = y := hy.symm
   have hyc : y ∈ cs := by rw [hy]; exact List.getElem_mem hlk
   simp (disch := first | omega | (simp only [go_sem]; try omega)) only [go_sem, hlk, hyk]
   refine ACalls.frz (i := H.length + 1) (ty := 9) (sz := 1) (els := [[.str y.tg]]) (own := true) (by simp) rfl ?_
   have e : [AV.c (.lst 2 (cs.map encCl)), AV.c (.sl (some (H.length + 1, 0)) 1), (.c (.int .i64 (↑m + 1)))].map (AV.frz1 (H.length + 1) 1 [[AC.str y.tg]]) = [.c (.lst 2 (cs.map encCl)), .c (.lst 1 (([] ++ [y.tg]).map encSs)), (.c (.int .i64 ((m + 1 : Nat))))] := by
    simp [AV.frz1, AC.frz]
    rfl
   rw [e]
   refine closed_a hF hs (m + 1) (by omega) y.tg m [] y.tg [y.tg] rfl (fun h => rfl) (nmC_mem hyc) (by simp; omega) ?_
   cases hgv : closG (kidC cs) (m + 1) m [y.tg] y.tg y.tg with
   | none =>
    simp only [clsV]
    simp (disch := first | omega | (simp only [go_sem]; try omega)) only [go_sem]
    refine Next.mk (k + 1) ⟨⟨by omega, fun j hj hjk => ?_⟩, by omega⟩ wk
    rcases Nat.lt_or_ge j k with h1 | h1
    ·exact hk2 j hj h1
    ·obtain rfl : j = k := by omega
     rw [hyk]; exact hgv
   | some l =>
    have hgs : g (m + 1) = some l := by
     rw [hgm]
     refine findSome_at (k := k) (by omega) (fun j hj hjk => ?_) ?_
     ·rw [hgl j hj (by omega)]; exact hk2 j (by omega) hjk
     ·rw [hgl k (by omega) hlk, hyk]; exact hgv
    have hfs : (List.range' 1 cs.length).findSome? g = some l := by
     refine findSome_at (k := m) (by rw [List.length_range']; exact hlt) (fun j hj hjm => ?_) ?_
     ·rw [hrg]; exact hm2 j hjm
     ·rw [hrg]; exact hgs
    have hln : l ≠ [] := closG_ne m _ _ l (by simp) hgv
    rw [hfs] at hk
    simp only [clsV, Option.getD_some] at hk ⊢
    simp (disch := first | omega | (simp only [go_sem]; try omega)) only [go_sem]
    refine asome_i (fun b hb => ?_)
    have hb := hb (by simpa using hln)
    subst hb
    simp (disch := first | omega | (simp only [go_sem]; try omega)) only [go_sem]
    exact Ret.drop hH (Nat.le_refl _) (by simp [AV.ok, AV.ok1, AC.ok]) hk
  ·have hgn : g (m + 1) = none := by
    rw [hgm]
    exact findSome_no (fun j hj => by rw [hgl j hj (by omega)]; exact hk2 j (by omega) (by omega))
   simp (disch := first | omega | (simp only [go_sem]; try omega)) only [go_sem]
   refine Next.mk (m + 1) ⟨⟨by omega, fun j hj => ?_⟩, by omega⟩ wk
   rcases Nat.lt_or_ge j m with h1 | h1
   ·exact hm2 j h1
   ·obtain rfl : j = m := by omega
    exact hgn
 ·have hle : ¬ ((m : Int) + 1 ≤ cs.length) := by omega
  have hn : (List.range' 1 cs.length).findSome? g = none := findSome_no (fun j hj => by rw [hrg]; rw [List.length_range'] at hj; exact hm2 j (by omega))
  rw [hn] at hk
  simp (disch := first | omega | (simp only [go_sem]; try omega)) only [go_sem, hle]
  exact Ret.nil [1] (by simp) (Ret.same (by simp) hk)
end Go.Proofs.YtagoolooikpabaaGreatDoor
