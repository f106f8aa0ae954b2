/- TornFilesRecover: what the law's function answers for all numbers it is given. No condition. -/
import Derived.Test.YthgdllfkejlnmaaGreatDoorHVWalk2
import Derived.Test.YthgdllfkejlnmaaGreatDoorHVFileE
import Derived.Test.YthgdllfkejlnmaaGreatDoorHVReady
import Derived.Test.YthgdllfkejlnmaaGreatDoorHVGC
import Derived.Test.YthgdllfkejlnmaaGreatDoorHVBytesEq
namespace Go.Proofs.YthgdllfkejlnmaaGreatDoor
open Go Go.RowKit
set_option maxRecDepth 100000
set_option linter.all false
set_option maxHeartbeats 2000000
variable {H : Hp} {K : AV → Hp → Prop}
theorem hasPrefix_a (l m : List UInt8) (hl : l.length ≤ 1000000) (hm : m.length ≤ 1000000) (h : m.length ≤ l.length ∧ l.take m.length = m) (hk : K (.c (.bool true)) H) : ACalls Tryz.prog 19 [.c (.lst 1 (l.map encU)), .c (.lst 1 (m.map encU))] H K := by
  obtain ⟨h1, h2⟩ := h
  have e1 : ((m.length : Int) ≤ l.length) := by omega
  refine acalls Tryz.func19 rfl (by kernel_rfl) (by simp (disch := first | omega | (simp only [go_sem]; first | done | omega)) only [go_sem]) (fun hH => ?_)
  simp (disch := first | omega | (simp only [go_sem]; first | done | omega)) only [go_sem]
  rw [Nat.sub_zero, ← List.map_take, h2]
  refine bytesEq_a m m (by omega) (by omega) ?_
  rw [decide_eq_true rfl]
  simp (disch := first | omega | (simp only [go_sem]; first | done | omega)) only [go_sem]
  exact Ret.same (Nat.le_refl _) hk
def whl (c : Nat) (y : Blk) : Bool := decide (y.at_ + y.long ≤ (c : Int))
theorem whl_next (c : Nat) {l : List Blk} {k : Nat} (h : k < l.length) : (((l.take (k + 1)).filter (whl c)).length : Int) = (((l.take k).filter (whl c)).length : Int) + (if l[k].at_ + l[k].long ≤ (c : Int) then 1 else 0) := by
  rw [List.take_succ_eq_append_getElem h, List.filter_append, List.length_append]
  by_cases hc : l[k].at_ + l[k].long ≤ (c : Int) <;> simp [whl, hc]
theorem tornFilesRecover_a (zs : List Int) (hz : zs.length ≤ 9223372036854775807) (hk : K (.c (.bool true)) H) : ACalls Tryz.prog 4 [.c (.lst 1 (zs.map encI))] H K := by
  have st : ∀ (k : Int) (L : Hp), 0 ≤ k → k ≤ 1000000000 → Str (H ++ strO zs k :: L) H.length zs k := fun k L h1 h2 => ⟨hz, h1, by omega, by simp⟩
  refine acalls Tryz.func4 rfl (by kernel_rfl) (by simp (disch := first | omega | (simp only [go_sem]; first | done | omega)) only [go_sem]) (fun hH => ?_)
  simp (disch := first | omega | (simp only [go_sem]; first | done | omega)) only [go_sem]
  refine aFile_f H.length zs 0 (st _ _ (by omega) (by omega)) (by omega) (fun b j1 g1 g2 g3 g4 => ?_)
  simp (disch := first | omega | (simp only [go_sem]; first | done | omega)) only [go_sem]
  refine index_a b g3 ?_
  rw [g4]
  simp (disch := first | omega | (simp only [go_sem]; first | done | omega)) only [go_sem]
  refine range_a H.length zs j1 0 b.length (st _ _ (by omega) (by omega)) (by omega) (by omega) (by omega) (fun cut c1 c2 => ?_)
  obtain ⟨c, rfl⟩ : ∃ c : Nat, cut = c := ⟨cut.toNat, by omega⟩
  have hc : c ≤ b.length := by omega
  have hb2 : (parG b 0 []).2.2 = 0 := by rw [← par_G g3]; exact g4
  obtain ⟨A, B, q, f1, f2, f3, f4, f5, f6, f7, f8⟩ := cut_par g3 c hc b.length 0 [] (by omega) (by omega) hb2
  rw [List.nil_append] at f1 f3 f8
  have htl : (b.take c).length = c := by rw [List.length_take]; omega
  have hpc : par (b.take c) = parG (b.take c) 0 [] := par_G (by omega)
  have hpq : par (b.take q) = (A, q, 0) := by rw [par_G (by rw [List.length_take]; omega)]; exact f8
  have hixb : idxB b = (A ++ B).map (fun x => x.b) := by unfold idxB; rw [if_neg (by rw [g4]; decide), par_G g3, f3]
  have hixr : idxB (b.take q) = A.map (fun x => x.b) := by unfold idxB; rw [hpq]; rfl
  have hsg := sal_ge (b.take c)
  have hsl := sal_le (b.take c)
  rw [f2] at hsg
  rw [htl] at hsl
  obtain ⟨C, h1, h2, h3, _⟩ := par_chain g3 b.length 0 [] (by omega) (by omega)
  rw [List.nil_append, f3] at h1
  have hch := (chainP_all _ _ _ h2).2
  rw [← h1] at hch
  have hbd : ∀ y ∈ idxB b, 0 ≤ y.at_ ∧ 2 ≤ y.long ∧ y.at_ + y.long ≤ 200000 := by
    intro y hy
    rw [hixb] at hy
    obtain ⟨x, hx, rfl⟩ := List.mem_map.1 hy
    have := hch x hx
    omega
  have hwl : ((idxB b).filter (whl c)).length = A.length := by
    rw [hixb, List.map_append, List.filter_append, List.length_append]
    have e1 : (A.map (fun x => x.b)).filter (whl c) = A.map (fun x => x.b) := List.filter_eq_self.2 (fun y hy => by
      obtain ⟨x, hx, rfl⟩ := List.mem_map.1 hy
      exact decide_eq_true (f6 x hx))
    have e2 : (B.map (fun x => x.b)).filter (whl c) = [] := List.filter_eq_nil_iff.2 (fun y hy => by
      obtain ⟨x, hx, rfl⟩ := List.mem_map.1 hy
      have := f7 x hx
      unfold whl
      simp
      omega)
    rw [e1, e2]
    simp
  have hrl : ((b.take c).take q) = b.take q := by rw [List.take_take, Nat.min_eq_left f5]
  have hql : (b.take q).length = q := by rw [List.length_take]; omega
  have hXl : (idxB b).length ≤ 200000 := by
    have := par_len b
    rw [hixb, List.length_map, ← f3, ← par_G g3]
    omega
  generalize hX : idxB b = X at *
  simp (disch := first | omega | (simp only [go_sem]; first | done | omega)) only [go_sem]
  rw [Nat.sub_zero, ← List.map_take]
  refine recover_a (b.take c) (by omega) ?_
  rw [hpc, f2, hrl, htl]
  simp (disch := first | omega | (simp only [go_sem]; first | done | omega)) only [go_sem]
  rw [Nat.sub_zero, ← List.map_take]
  refine salvage_a (b.take c) (by omega) ?_
  rw [htl]
  generalize sal (b.take c) = v at *
  simp (disch := first | omega | (simp only [go_sem]; first | done | omega)) only [go_sem]
  refine index_a (b.take q) (by omega) ?_
  rw [hixr, hpq]
  dsimp only
  have hAl : (A.map (fun x => x.b)).length = A.length := by simp
  generalize A.map (fun x => x.b) = Y at *
  simp (disch := first | omega | (simp only [go_sem]; first | done | omega)) only [go_sem]
  refine errsK_lit [0, 0, 0, 0] (by first | exact at0 (by simp) | exact at1 (by simp) | exact at2 (by simp) | exact at3 (by simp) | exact at4 (by simp) | exact at5 (by simp) | exact atG 6 (by simp) rfl | exact atG 7 (by simp) rfl | exact atG 8 (by simp) rfl | exact atG 9 (by simp) rfl | exact atG 10 (by simp) rfl | exact atG 11 (by simp) rfl | exact atG 12 (by simp) rfl | exact atG 13 (by simp) rfl | exact atG 14 (by simp) rfl | exact atG 15 (by simp) rfl | assumption) rfl rfl (by simp) ?_
  rw [show firstE ([0, 0, 0, 0] : List Int) = 0 from rfl]
  have hpre : (b.take q).length ≤ b.length ∧ b.take (b.take q).length = b.take q := by rw [hql]; exact ⟨by omega, rfl⟩
  generalize b.take q = R at *
  simp (disch := first | omega | (simp only [go_sem]; first | done | omega)) only [go_sem]
  refine hasPrefix_a b R (by omega) (by omega) hpre ?_
  simp (disch := first | omega | (simp only [go_sem]; first | done | omega)) only [go_sem]
  refine AWp.loop (H.length + 1) [7, 14, 92, 93] [94, 16] (fun (k : Nat) => k ≤ X.length) (fun (k : Nat) => [(94, (.c (.int .i64 k))), (16, (.c (.int .i64 ((((X.take k).filter (whl c)).length : Nat)))))]) (fun (k : Nat) => H ++ [strO zs (j1 + 1)]) (fun (k : Nat) => X.length - k) (by kernel_rfl) (fun _ => rfl) (by kernel_rfl) (by simp) (by first | (simp; done) | (simp; omega)) (by (try simp only [List.forall_mem_cons, List.not_mem_nil, false_implies, implies_true, and_true]); (try simp (disch := first | omega | (simp only [go_sem]; first | done | omega)) only [go_sem]); all_goals first | trivial | (simp [AV.ok, AV.ok1, AC.ok]; done) | (simp [AV.ok, AV.ok1, AC.ok]; omega) | (simp [AV.ok, AV.ok1, AC.ok]; assumption) | ((repeat' apply And.intro) <;> first | trivial | (simp [AV.ok, AV.ok1, AC.ok]; done) | (simp [AV.ok, AV.ok1, AC.ok]; omega) | (simp [AV.ok, AV.ok1, AC.ok]; assumption) | (refine grV_ok ?_ _; first | (simp; done) | (simp; omega) | omega))) ?_ (fun k hk1 _ _ => ?_)
  · refine Next.mk 0 (by omega) ?_
    (try simp (disch := first | omega | (simp only [go_sem]; first | done | omega)) only [go_sem]); (first | refine WkL.eq ?_ ?_ | refine WkL.rest (by assumption) ?_ ?_ ?_ | refine WkL.keepL (by assumption) rfl ?_ ?_ ?_ ?_) <;> first | rfl | (simp; done) | (simp; omega) | (simp only [List.cons.injEq, AV.c.injEq, AC.int.injEq, AC.bool.injEq, AC.str.injEq, and_true, true_and, Int.natCast_add, Int.natCast_one, Int.cast_ofNat_Int]; omega) | (simp [AV.ok, AV.ok1, AC.ok]; done) | (simp [AV.ok, AV.ok1, AC.ok]; omega) | (simp only [List.forall_mem_cons, List.not_mem_nil, false_implies, implies_true, and_true]; (repeat' apply And.intro) <;> first | exact okN_map (fun x => by simp [go_sem, AC.pure]) | exact okN_grO (fun x => by simp [go_sem, AC.pure]) | (simp [AObj.okN, AC.ok]; done) | (simp [AObj.okN, AC.ok]; omega)) | (simp [*]; done) | grind
  have hfl : ((X.take k).filter (whl c)).length ≤ X.length := by
    have h1 := List.length_filter_le (whl c) (X.take k)
    rw [List.length_take] at h1
    omega
  by_cases hlt : k < X.length
  · have hnx := whl_next c hlt
    have hbk := hbd X[k] (List.getElem_mem hlt)
    generalize ((X.take k).filter (whl c)).length = n at *
    by_cases d : X[k].at_ + X[k].long ≤ (c : Int)
    · rw [if_pos d] at hnx
      simp (disch := first | omega | (simp only [go_sem]; first | done | omega)) only [go_sem, encBk, d]
      refine Next.mk (k + 1) ⟨by omega, by omega⟩ ?_
      rw [hnx]
      (try simp (disch := first | omega | (simp only [go_sem]; first | done | omega)) only [go_sem]); (first | refine WkL.eq ?_ ?_ | refine WkL.rest (by assumption) ?_ ?_ ?_ | refine WkL.keepL (by assumption) rfl ?_ ?_ ?_ ?_) <;> first | rfl | (simp; done) | (simp; omega) | (simp only [List.cons.injEq, AV.c.injEq, AC.int.injEq, AC.bool.injEq, AC.str.injEq, and_true, true_and, Int.natCast_add, Int.natCast_one, Int.cast_ofNat_Int]; omega) | (simp [AV.ok, AV.ok1, AC.ok]; done) | (simp [AV.ok, AV.ok1, AC.ok]; omega) | (simp only [List.forall_mem_cons, List.not_mem_nil, false_implies, implies_true, and_true]; (repeat' apply And.intro) <;> first | exact okN_map (fun x => by simp [go_sem, AC.pure]) | exact okN_grO (fun x => by simp [go_sem, AC.pure]) | (simp [AObj.okN, AC.ok]; done) | (simp [AObj.okN, AC.ok]; omega)) | (simp [*]; done) | grind
    · rw [if_neg d] at hnx
      simp (disch := first | omega | (simp only [go_sem]; first | done | omega)) only [go_sem, encBk, d]
      refine Next.mk (k + 1) ⟨by omega, by omega⟩ ?_
      rw [hnx]
      (try simp (disch := first | omega | (simp only [go_sem]; first | done | omega)) only [go_sem]); (first | refine WkL.eq ?_ ?_ | refine WkL.rest (by assumption) ?_ ?_ ?_ | refine WkL.keepL (by assumption) rfl ?_ ?_ ?_ ?_) <;> first | rfl | (simp; done) | (simp; omega) | (simp only [List.cons.injEq, AV.c.injEq, AC.int.injEq, AC.bool.injEq, AC.str.injEq, and_true, true_and, Int.natCast_add, Int.natCast_one, Int.cast_ofNat_Int]; omega) | (simp [AV.ok, AV.ok1, AC.ok]; done) | (simp [AV.ok, AV.ok1, AC.ok]; omega) | (simp only [List.forall_mem_cons, List.not_mem_nil, false_implies, implies_true, and_true]; (repeat' apply And.intro) <;> first | exact okN_map (fun x => by simp [go_sem, AC.pure]) | exact okN_grO (fun x => by simp [go_sem, AC.pure]) | (simp [AObj.okN, AC.ok]; done) | (simp [AObj.okN, AC.ok]; omega)) | (simp [*]; done) | grind
  · rw [List.take_of_length_le (show X.length ≤ k by omega), hwl, ← hAl]
    simp (disch := first | omega | (simp only [go_sem]; first | done | omega)) only [go_sem]
    refine ready_a ?_
    simp (disch := first | omega | (simp only [go_sem]; first | done | omega)) only [go_sem]
    exact Ret.drop hH (Nat.le_refl _) trivial hk
end Go.Proofs.YthgdllfkejlnmaaGreatDoor
