/- The document's answer: numbers as rows; what is wrong with a buffer; many steps drawn. No condition. -/
import Derived.Test.YtnpdbnkgipkgaaaGreatHVKeptF
import Derived.Test.YtnpdbnkgipkgaaaGreatHVSteps
namespace Go.Proofs.YtnpdbnkgipkgaaaGreat
open Go Go.RowKit
set_option maxRecDepth 100000
set_option linter.all false
set_option maxHeartbeats 2000000
variable {H : Hp} {K : AV → Hp → Prop}
theorem bufferFault_a (c p : Int) (l : List Stp) (hlen : l.length ≤ 1099511627776) (ht : ∀ x ∈ l, x.tag.size ≤ 1099511627776) (hk : K (.c (.int .i64 (bfE c p l))) H) : ACalls Tryz.prog 17 [(.c (.int .i64 c)), (.c (.int .i64 p)), .c (.lst 7 (l.map encStp))] H K := by
  refine acalls Tryz.func17 rfl (by kernel_rfl) (by simp (disch := first | omega | (simp only [go_sem]; first | done | omega)) only [go_sem]) (fun hH => ?_)
  simp (disch := first | omega | (simp only [go_sem]; first | done | omega)) only [go_sem]
  repeat' (first | ((first | refine acond_d ?_ ?_ | refine acond_b ?_ ?_ | refine ag_d ?_ ?_ | refine ag_n ?_ ?_ | refine ag_bt ?_ ?_ | refine ag_bf ?_ ?_) <;> intro c <;> try simp (disch := first | omega | (simp only [go_sem]; first | done | omega)) only [go_sem, c]) | ((first | refine w_draw (by kernel_rfl) (by decide +kernel) ?_ | refine in_a _ _ _ _ _ ?_ | refine stepsFault_a l hlen ht ?_) <;> try simp (disch := first | omega | (simp only [go_sem]; first | done | omega)) only [go_sem]))
  all_goals (first | refine Ret.sameE (Nat.le_refl _) (by assumption) ?_ | refine Ret.dropE (by assumption) (Nat.le_refl _) (by assumption) (by simp [AV.ok, AV.ok1, AC.ok]) ?_) <;> grind [bfE]
theorem manySteps_a (s : Nat) (zs : List Int) (j : Int) (hs : Str H s zs j) (hj : j ≤ 1000000000)
    (hk : ∀ (l : List Stp) (j' : Int), j ≤ j' → j' ≤ j + 1 → l.length ≤ 1001 → (∀ x ∈ l, x.tag.size ≤ 1000) → K (.c (.lst 7 (l.map encStp))) (H.set s (strO zs j'))) :
    ACalls Tryz.prog 11 [.c (.ptr (some (s, 0, 0)))] H K := by
  have hlt := hs.lt
  have hpos := hs.pos
  have hne : H.length ≠ s := by omega
  refine acalls Tryz.func11 rfl (by kernel_rfl) (by simp (disch := first | omega | (simp only [go_sem]; first | done | omega)) only [go_sem]) (fun hH => ?_)
  simp (disch := first | omega | (simp only [go_sem]; first | done | omega)) only [go_sem]
  refine range_a s zs j (-1) 1 (by first | exact hs | exact hs.app _ | exact hs.set (by omega) (by omega) | exact (hs.set (by omega) (by omega)).app _) (by omega) (by omega) (by omega) (fun r hr0 hr1 => ?_)
  simp (disch := first | omega | (simp only [go_sem]; first | done | omega)) only [go_sem]
  refine AWp.loop (H.length) [7] [8, 3] (fun (q : Nat × List Stp) => (q.1 : Int) ≤ 1000 + r ∧ q.2.length = q.1 ∧ (∀ x ∈ q.2, x.tag.size ≤ 1000)) (fun (q : Nat × List Stp) => [(8, (.c (.int .i64 (q.1)))), (3, .c (grV H.length q.2))]) (fun (q : Nat × List Stp) => H.set s (strO zs (j + 1)) ++ [grO 100 7 (q.2.map encStp)]) (fun (q : Nat × List Stp) => (1000 + r).toNat - q.1) (by kernel_rfl) (fun _ => rfl) (by kernel_rfl) (by first | (simp; done) | omega) (by first | (simp; done) | (simp; omega) | omega) (by (try simp only [List.forall_mem_cons, List.not_mem_nil, false_implies, implies_true, and_true]); (try simp (disch := first | omega | (simp only [go_sem]; first | done | omega)) only [go_sem]); all_goals first | trivial | (simp [AV.ok, AV.ok1, AC.ok]; done) | (simp [AV.ok, AV.ok1, AC.ok]; omega) | (simp [AV.ok, AV.ok1, AC.ok]; assumption) | ((repeat' apply And.intro) <;> first | trivial | (simp [AV.ok, AV.ok1, AC.ok]; done) | (simp [AV.ok, AV.ok1, AC.ok]; omega) | (simp [AV.ok, AV.ok1, AC.ok]; assumption) | (refine grV_ok ?_ _; first | (simp; done) | (simp; omega) | omega))) ?_ (fun q hq _ _ => ?_)
  · refine Next.mk (0, []) ⟨by dsimp only; omega, rfl, by simp⟩ ?_
    exact WkL.pad (by simp)
  obtain ⟨k, l⟩ := q
  obtain ⟨q1, q2, q3⟩ := hq
  dsimp only at q1 q2 q3 ⊢
  by_cases hkl : (k : Int) < 1000 + r
  · simp (disch := first | omega | (simp only [go_sem]; first | done | omega)) only [go_sem, hkl]
    (refine app_gr (enc := encStp) (e := 100) (sz := 7) (bs := 64) (z := [.int .i64 0, .int .i64 0, .int .i64 0, .str ⟨#[]⟩, .int .i64 0, .int .i64 0, .int .i64 0]) (l) (⟨1, 0, 0, ⟨#[116, 97]⟩, ⟨k, 0, 0⟩⟩) (by kernel_rfl) (by kernel_rfl) (by kernel_rfl) (by kernel_rfl) (by first | exact at0 (by simp) | exact at1 (by simp) | exact at2 (by simp) | exact at3 (by simp) | exact at4 (by simp) | exact at5 (by simp) | exact atG 6 (by simp) rfl | exact atG 7 (by simp) rfl | exact atG 8 (by simp) rfl | exact atG 9 (by simp) rfl | exact atG 10 (by simp) rfl | exact atG 11 (by simp) rfl | exact atG 12 (by simp) rfl | exact atG 13 (by simp) rfl | exact atG 14 (by simp) rfl | exact atG 15 (by simp) rfl | assumption) (by first | (simp (disch := first | omega | (simp only [go_sem]; first | done | omega)) only [go_sem]; done) | (simp (disch := first | omega | (simp only [go_sem]; first | done | omega)) only [go_sem]; rfl) | (simp (disch := first | omega | (simp only [go_sem]; first | done | omega)) only [go_sem]; simp [go_sem]; done) | (simp (disch := first | omega | (simp only [go_sem]; first | done | omega)) only [go_sem]; simp [*]; done)) rfl (by decide) (by omega) (by omega) (by rfl) ?_)
    simp (disch := first | omega | (simp only [go_sem]; first | done | omega)) only [go_sem]
    refine Next.mk (k + 1, l ++ [⟨1, 0, 0, ⟨#[116, 97]⟩, ⟨k, 0, 0⟩⟩]) ⟨⟨by dsimp only; omega, by simp [q2], fun x hx => ?_⟩, by dsimp only; omega⟩ ?_
    · rcases List.mem_append.1 hx with h | h
      · exact q3 x h
      · simp at h; subst h; exact (show ByteArray.size ⟨#[116, 97]⟩ ≤ 1000 by decide)
    · ((try simp (disch := first | omega | (simp only [go_sem]; first | done | omega)) only [go_sem]); (first | refine WkL.pick [0] ?_ ?_ rfl ?_ ?_ ?_ ?_ | refine WkL.pick [1] ?_ ?_ rfl ?_ ?_ ?_ ?_ | refine WkL.pick [2] ?_ ?_ rfl ?_ ?_ ?_ ?_ | refine WkL.pick [3] ?_ ?_ rfl ?_ ?_ ?_ ?_ | refine WkL.pick [4] ?_ ?_ rfl ?_ ?_ ?_ ?_ | refine WkL.pick [5] ?_ ?_ rfl ?_ ?_ ?_ ?_ | refine WkL.pick [6] ?_ ?_ rfl ?_ ?_ ?_ ?_ | refine WkL.pick [7] ?_ ?_ rfl ?_ ?_ ?_ ?_ | refine WkL.pick [8] ?_ ?_ rfl ?_ ?_ ?_ ?_ | refine WkL.pick [9] ?_ ?_ rfl ?_ ?_ ?_ ?_ | refine WkL.pick [10] ?_ ?_ rfl ?_ ?_ ?_ ?_ | refine WkL.pick [11] ?_ ?_ rfl ?_ ?_ ?_ ?_ | refine WkL.pick [12] ?_ ?_ rfl ?_ ?_ ?_ ?_ | refine WkL.pick [13] ?_ ?_ rfl ?_ ?_ ?_ ?_ | refine WkL.pick [14] ?_ ?_ rfl ?_ ?_ ?_ ?_ | refine WkL.pick [15] ?_ ?_ rfl ?_ ?_ ?_ ?_) <;> first | assumption | exact HOk.str (by assumption) | (simp; done) | (simp; omega) | (simp [pureO_gr, AObj.pureO, pureL, go_sem, AC.pure]; done) | (simp only [List.all_cons, List.all_nil, Bool.and_true]; exact pureO_gr (pureL_map _ (fun x => by simp [go_sem, AC.pure]))) | ((try simp only [List.map_cons, List.map_nil, av_ren_gr]); simp [AV.ren, AV.ren1, AC.ren, pickS]; first | done | omega) | (simp only [List.forall_mem_cons, List.not_mem_nil, false_implies, implies_true, and_true]; (repeat' apply And.intro) <;> first | trivial | exact grV_ok (by simp) _ | exact okN_grO (fun x => by simp [go_sem, AC.pure]) | exact okN_map (fun x => by simp [go_sem, AC.pure]) | (simp [AV.ok, AV.ok1, AC.ok]; done) | (simp [AV.ok, AV.ok1, AC.ok]; omega) | (simp [AObj.okN, AC.ok]; done)) | (simp [AObj.okN]; done))
  · simp (disch := first | omega | (simp only [go_sem]; first | done | omega)) only [go_sem, hkl]
    exact Ret.frzGr 0 (HOk.str hH) (by simp) rfl (pureL_map l (fun x => by simp [go_sem, AC.pure])) (by rw [map_grV]; simp) (hk l (j + 1) (by omega) (by omega) (by omega) q3)
end Go.Proofs.YtnpdbnkgipkgaaaGreat
