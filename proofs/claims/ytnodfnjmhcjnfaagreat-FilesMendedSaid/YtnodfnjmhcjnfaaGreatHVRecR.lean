/- Recover and Salvage: the program at any length, and the document. Condition: the bytes fit. -/
import Derived.Test.YtnodfnjmhcjnfaaGreatHVWalk2
import Derived.Test.YtnodfnjmhcjnfaaGreatHVBlkC
namespace Go.Proofs.YtnodfnjmhcjnfaaGreat
open Go Go.RowKit
set_option maxRecDepth 100000
set_option linter.all false
set_option maxHeartbeats 2000000
variable {H : Hp} {K : AV → Hp → Prop}
def recR (l : List UInt8) : List UInt8 × Int × Int := if 200000 < l.length then ([], 0, 2) else (l.take (par l).2.1, (l.length : Int) - (par l).2.1, 0)
def salR (l : List UInt8) : List UInt8 × Int × Int := if 200000 < l.length then ([], 0, 2) else (sal l, (l.length : Int) - (sal l).length, 0)
theorem recoverB_a (l : List UInt8) (hl : l.length ≤ 100000000) (hk : K (.tup [.c (.lst 1 ((recR l).1.map encU)), (.c (.int .i64 ((recR l).2.1))), (.c (.int .i64 ((recR l).2.2)))]) H) : ACalls Tryz.prog 10 [.c (.lst 1 (l.map encU))] H K := by
  unfold recR at hk
  by_cases h : 200000 < l.length
  · rw [if_pos h] at hk
    have e0 : ((200000 : Int) < l.length) = True := by simp; omega
    refine acalls Tryz.func10 rfl (by kernel_rfl) (by simp (disch := first | omega | (simp only [go_sem]; first | done | omega)) only [go_sem]) (fun hH => ?_)
    simp (disch := first | omega | (simp only [go_sem]; first | done | omega)) only [go_sem, e0]
    exact Ret.nil [1] (by simp) (Ret.same (by simp) hk)
  · rw [if_neg h] at hk
    exact recover_a l (by omega) hk
theorem salvageB_a (l : List UInt8) (hl : l.length ≤ 100000000) (hk : K (.tup [.c (.lst 1 ((salR l).1.map encU)), (.c (.int .i64 ((salR l).2.1))), (.c (.int .i64 ((salR l).2.2)))]) H) : ACalls Tryz.prog 11 [.c (.lst 1 (l.map encU))] H K := by
  unfold salR at hk
  by_cases h : 200000 < l.length
  · rw [if_pos h] at hk
    have e0 : ((200000 : Int) < l.length) = True := by simp; omega
    refine acalls Tryz.func11 rfl (by kernel_rfl) (by simp (disch := first | omega | (simp only [go_sem]; first | done | omega)) only [go_sem]) (fun hH => ?_)
    simp (disch := first | omega | (simp only [go_sem]; first | done | omega)) only [go_sem, e0]
    exact Ret.nil [1] (by simp) (Ret.same (by simp) hk)
  · rw [if_neg h] at hk
    exact salvage_a l (by omega) hk
theorem par_at (l : List UInt8) : (par l).2.1 ≤ l.length := by
  by_cases h : 200000 < l.length
  · have e : par l = ([], 0, 2) := by unfold par; rw [if_pos h]
    rw [e]; exact Nat.zero_le _
  · rw [par_G (by omega)]
    obtain ⟨_, _, _, h3, _⟩ := par_chain (l := l) (by omega) l.length 0 [] (by omega) (by omega)
    exact h3
theorem recoverOf_a (l : List UInt8) (hl : l.length ≤ 100000000) (hk : K (.tup [.c (.lst 1 ((recR l).1.map encU)), (.c (.int .i64 ((recR l).2.1))), (.c (.int .i64 ((recR l).2.2)))]) H) : ACalls Tryz.prog 14 [.c (.lst 1 (l.map encU))] H K := by
  have hp := par_at l
  unfold recR at hk
  by_cases h : 200000 < l.length
  · rw [if_pos h] at hk
    have e0 : ((200000 : Int) < l.length) = True := by simp; omega
    refine acalls Tryz.func14 rfl (by kernel_rfl) (by simp (disch := first | omega | (simp only [go_sem]; first | done | omega)) only [go_sem]) (fun hH => ?_)
    simp (disch := first | omega | (simp only [go_sem]; first | done | omega)) only [go_sem, e0]
    exact Ret.nil [1] (by simp) (Ret.same (by simp) hk)
  · rw [if_neg h] at hk
    have e0 : ((200000 : Int) < l.length) = False := by simp; omega
    refine acalls Tryz.func14 rfl (by kernel_rfl) (by simp (disch := first | omega | (simp only [go_sem]; first | done | omega)) only [go_sem]) (fun hH => ?_)
    simp (disch := first | omega | (simp only [go_sem]; first | done | omega)) only [go_sem, e0]
    refine parse_a l hl ?_
    generalize (par l).2.1 = p at *
    simp (disch := first | omega | (simp only [go_sem]; first | done | omega)) only [go_sem]
    rw [← List.map_take]
    exact Ret.same (by simp) hk
theorem salvageOf_a (l : List UInt8) (hl : l.length ≤ 100000000) (hk : K (.tup [.c (.lst 1 ((salR l).1.map encU)), (.c (.int .i64 ((salR l).2.1))), (.c (.int .i64 ((salR l).2.2)))]) H) : ACalls Tryz.prog 15 [.c (.lst 1 (l.map encU))] H K := by
  unfold salR at hk
  by_cases h : 200000 < l.length
  · rw [if_pos h] at hk
    have e0 : ((200000 : Int) < l.length) = True := by simp; omega
    refine acalls Tryz.func15 rfl (by kernel_rfl) (by simp (disch := first | omega | (simp only [go_sem]; first | done | omega)) only [go_sem]) (fun hH => ?_)
    simp (disch := first | omega | (simp only [go_sem]; first | done | omega)) only [go_sem, e0]
    exact Ret.nil [1] (by simp) (Ret.same (by simp) hk)
  rw [if_neg h] at hk
  have e0 : ((200000 : Int) < l.length) = False := by simp; omega
  unfold sal at hk
  generalize hS : salF l (l.length + 1) 0 [] [] = S at hk
  refine acalls Tryz.func15 rfl (by kernel_rfl) (by simp (disch := first | omega | (simp only [go_sem]; first | done | omega)) only [go_sem]) (fun hH => ?_)
  simp (disch := first | omega | (simp only [go_sem]; first | done | omega)) only [go_sem, e0]
  refine AWp.loop (H.length) [0] [5, 6, 7] (fun (s : Nat × List Pc × List UInt8) => s.1 ≤ l.length ∧ s.2.1.length ≤ s.1 ∧ s.2.2.length ≤ s.1 ∧ ∃ f, l.length - s.1 < f ∧ S = salF l f s.1 s.2.1 s.2.2) (fun (s : Nat × List Pc × List UInt8) => [(5, .c (grV H.length s.2.1)), (6, .c (grV (H.length + 1) s.2.2)), (7, (.c (.int .i64 (s.1))))]) (fun (s : Nat × List Pc × List UInt8) => H ++ [grO 80 8 (s.2.1.map encPc), grO 5 1 (s.2.2.map encU)]) (fun (s : Nat × List Pc × List UInt8) => l.length - s.1) (by kernel_rfl) (fun _ => rfl) (by kernel_rfl) (by first | (simp; done) | omega) (by first | (simp; done) | (simp; omega) | omega) kl ?_ (fun s hs _ _ => ?_)
  · refine Next.mk (0, [], []) ⟨by simp, by simp, by simp, l.length + 1, by simp, hS.symm⟩ ?_
    simp (disch := first | omega | (simp only [go_sem]; first | done | omega)) only [go_sem]
    exact WkL.trans (WkL.pad (by simp)) (WkL.padP [_] (by simp))
  obtain ⟨p, acc, out⟩ := s
  obtain ⟨hp, ha, ho, f, hf, hr⟩ := hs
  dsimp only at hp ha ho hf hr ⊢
  obtain ⟨f, rfl⟩ : ∃ g, f = g + 1 := ⟨f - 1, by omega⟩
  by_cases hlt : p < l.length
  · rw [salF, if_pos hlt] at hr
    have hok := decTop_ok (l := l) (p := p)
    simp (disch := first | omega | (simp only [go_sem]; first | done | omega)) only [go_sem, hlt]
    refine decodeOf_a l p hl ?_
    generalize decTop l p = r at *
    obtain ⟨b, ss, e⟩ := r
    dsimp only at hr hok ⊢
    unfold encBk
    by_cases he : e = 0
    case neg =>
      rw [if_neg (fun h => he h.1)] at hr
      simp (disch := first | omega | (simp only [go_sem]; first | done | omega)) only [go_sem, he]
      refine Next.mk (p + 1, acc, out) ⟨⟨by dsimp only; omega, by dsimp only; omega, by dsimp only; omega, f, by dsimp only; omega, hr⟩, by dsimp only; omega⟩ ?_
      (try dsimp only)
      ((try simp (disch := first | omega | (simp only [go_sem]; first | done | omega)) only [go_sem]); (refine WkL.pick [0, 1] ?_ ?_ rfl ?_ ?_ ?_ ?_) <;> first | (simp only [List.map_cons, List.map_nil, av_ren_gr]; (try simp only [AV.ren, AV.ren1, AC.ren, renP]); (try simp only [pickS_add, pickS_zero]); rfl) | (simp only [List.all_cons, List.all_nil, Bool.and_true, Bool.and_eq_true]; (repeat' apply And.intro) <;> first | exact pureO_gr (pureL_map _ (fun x => by simp [go_sem, AC.pure])) | (simp [AObj.pureO, pureL, go_sem, AC.pure]; done)) | assumption | exact HOk.str (by assumption) | (simp; done) | (simp; omega) | (simp [pureO_gr, AObj.pureO, pureL, go_sem, AC.pure]; done) | (simp only [List.all_cons, List.all_nil, Bool.and_true]; exact pureO_gr (pureL_map _ (fun x => by simp [go_sem, AC.pure]))) | ((try simp only [List.map_cons, List.map_nil, av_ren_gr]); simp [AV.ren, AV.ren1, AC.ren, renP, pickS]; first | done | omega) | (simp only [List.forall_mem_cons, List.not_mem_nil, false_implies, implies_true, and_true]; (repeat' apply And.intro) <;> first | trivial | exact grV_ok (by simp) _ | exact okN_grO (fun x => by simp [go_sem, AC.pure]) | exact okN_map (fun x => by simp [go_sem, AC.pure]) | (simp [AV.ok, AV.ok1, AC.ok]; done) | (simp [AV.ok, AV.ok1, AC.ok]; omega) | (simp [AObj.okN, AC.ok]; done)) | (simp [AObj.okN]; done))
    obtain ⟨o1, o2⟩ := hok he
    simp (disch := first | omega | (simp only [go_sem]; first | done | omega)) only [go_sem, he]
    refine foll_lend acc b (by omega) (by first | ((repeat first | exact at0 (by simp) | refine atS ?_); done) | assumption) ?_
    by_cases hf : foll acc b = false
    · rw [if_neg (fun h => by rw [hf] at h; cases h.2)] at hr
      simp (disch := first | omega | (simp only [go_sem]; first | done | omega)) only [go_sem, hf]
      refine Next.mk (p + 1, acc, out) ⟨⟨by dsimp only; omega, by dsimp only; omega, by dsimp only; omega, f, by dsimp only; omega, hr⟩, by dsimp only; omega⟩ ?_
      (try dsimp only)
      ((try simp (disch := first | omega | (simp only [go_sem]; first | done | omega)) only [go_sem]); (refine WkL.pick [0, 1] ?_ ?_ rfl ?_ ?_ ?_ ?_) <;> first | (simp only [List.map_cons, List.map_nil, av_ren_gr]; (try simp only [AV.ren, AV.ren1, AC.ren, renP]); (try simp only [pickS_add, pickS_zero]); rfl) | (simp only [List.all_cons, List.all_nil, Bool.and_true, Bool.and_eq_true]; (repeat' apply And.intro) <;> first | exact pureO_gr (pureL_map _ (fun x => by simp [go_sem, AC.pure])) | (simp [AObj.pureO, pureL, go_sem, AC.pure]; done)) | assumption | exact HOk.str (by assumption) | (simp; done) | (simp; omega) | (simp [pureO_gr, AObj.pureO, pureL, go_sem, AC.pure]; done) | (simp only [List.all_cons, List.all_nil, Bool.and_true]; exact pureO_gr (pureL_map _ (fun x => by simp [go_sem, AC.pure]))) | ((try simp only [List.map_cons, List.map_nil, av_ren_gr]); simp [AV.ren, AV.ren1, AC.ren, renP, pickS]; first | done | omega) | (simp only [List.forall_mem_cons, List.not_mem_nil, false_implies, implies_true, and_true]; (repeat' apply And.intro) <;> first | trivial | exact grV_ok (by simp) _ | exact okN_grO (fun x => by simp [go_sem, AC.pure]) | exact okN_map (fun x => by simp [go_sem, AC.pure]) | (simp [AV.ok, AV.ok1, AC.ok]; done) | (simp [AV.ok, AV.ok1, AC.ok]; omega) | (simp [AObj.okN, AC.ok]; done)) | (simp [AObj.okN]; done))
    have hf : foll acc b = true := by simpa using hf
    rw [if_pos ⟨he, hf⟩] at hr
    simp (disch := first | omega | (simp only [go_sem]; first | done | omega)) only [go_sem, hf]
    (refine app_gr (enc := encPc) (e := 80) (sz := 8) (bs := 88) (z := [.int .i64 0, .int .i64 0, .str ⟨#[]⟩, .int .i64 0, .int .i64 0, .int .i64 0, .bool false, .sl none 0]) (acc) (⟨b, ss⟩) (by kernel_rfl) (by kernel_rfl) (by kernel_rfl) (by kernel_rfl) (by first | ((repeat first | exact at0 (by simp) | refine atS ?_); done) | assumption) (by first | (simp (disch := first | omega | (simp only [go_sem]; first | done | omega)) only [go_sem]; done) | (simp (disch := first | omega | (simp only [go_sem]; first | done | omega)) only [go_sem]; rfl) | (simp (disch := first | omega | (simp only [go_sem]; first | done | omega)) only [go_sem]; simp [go_sem]; done) | (simp (disch := first | omega | (simp only [go_sem]; first | done | omega)) only [go_sem]; simp [*]; done)) rfl (by decide) (by omega) (by omega) (by rfl) ?_)
    simp (disch := first | omega | (simp only [go_sem]; first | done | omega)) only [go_sem]
    have hq : ((p : Int) + b.long).toNat - p = b.long.toNat := by omega
    have hq2 : ((p : Int) + b.long) = ((p + b.long.toNat : Nat) : Int) := by omega
    have hq3 : 1 ≤ b.long.toNat ∧ p + b.long.toNat ≤ l.length := by omega
    rw [hq]
    obtain ⟨out', ho'⟩ : ∃ o, o = out ++ (l.drop p).take b.long.toNat := ⟨_, rfl⟩
    have hml : ((l.drop p).take b.long.toNat).length = b.long.toNat := by rw [List.length_take, List.length_drop]; omega
    have hol : out'.length = out.length + b.long.toNat := by rw [ho', List.length_append, hml]
    rw [← ho'] at hr
    have hmn : (l.drop p).take b.long.toNat ≠ [] := by intro h; rw [h] at hml; simp at hml; omega
    refine appUe out ((l.drop p).take b.long.toNat) out' _ rfl ho' (by first | ((repeat first | exact at0 (by simp) | refine atS ?_); done) | assumption) hmn (by omega) ?_
    simp (disch := first | omega | (simp only [go_sem]; first | done | omega)) only [go_sem]
    refine Next.mk (p + b.long.toNat, acc ++ [⟨b, ss⟩], out') ⟨⟨by dsimp only; omega, by simp; omega, by dsimp only; omega, f, by dsimp only; omega, hr⟩, by dsimp only; omega⟩ ?_
    dsimp only
    rw [hq2]
    ((try simp (disch := first | omega | (simp only [go_sem]; first | done | omega)) only [go_sem]); (refine WkL.pick [4, 5] ?_ ?_ rfl ?_ ?_ ?_ ?_) <;> first | (simp only [List.map_cons, List.map_nil, av_ren_gr]; (try simp only [AV.ren, AV.ren1, AC.ren, renP]); (try simp only [pickS_add, pickS_zero]); rfl) | (simp only [List.all_cons, List.all_nil, Bool.and_true, Bool.and_eq_true]; (repeat' apply And.intro) <;> first | exact pureO_gr (pureL_map _ (fun x => by simp [go_sem, AC.pure])) | (simp [AObj.pureO, pureL, go_sem, AC.pure]; done)) | assumption | exact HOk.str (by assumption) | (simp; done) | (simp; omega) | (simp [pureO_gr, AObj.pureO, pureL, go_sem, AC.pure]; done) | (simp only [List.all_cons, List.all_nil, Bool.and_true]; exact pureO_gr (pureL_map _ (fun x => by simp [go_sem, AC.pure]))) | ((try simp only [List.map_cons, List.map_nil, av_ren_gr]); simp [AV.ren, AV.ren1, AC.ren, renP, pickS]; first | done | omega) | (simp only [List.forall_mem_cons, List.not_mem_nil, false_implies, implies_true, and_true]; (repeat' apply And.intro) <;> first | trivial | exact grV_ok (by simp) _ | exact okN_grO (fun x => by simp [go_sem, AC.pure]) | exact okN_map (fun x => by simp [go_sem, AC.pure]) | (simp [AV.ok, AV.ok1, AC.ok]; done) | (simp [AV.ok, AV.ok1, AC.ok]; omega) | (simp [AObj.okN, AC.ok]; done)) | (simp [AObj.okN]; done))
  · have : p = l.length := by omega
    subst this
    rw [salF, if_neg (by omega)] at hr
    rw [hr] at hk
    simp (disch := first | omega | (simp only [go_sem]; first | done | omega)) only [go_sem]
    exact Ret.frzGrT 1 hH (Nat.le_refl _) rfl (pureL_U _) rfl (map_grV _ _ _).symm hk
end Go.Proofs.YtnodfnjmhcjnfaaGreat
