/- Several texts in one: Append of the program, and what follows. No condition. -/
import Derived.Test.YtnodfnjmhcjnfaaGreatDoorHVBlkP
import Derived.Test.YtnodfnjmhcjnfaaGreatDoorHVAppend
import Derived.Test.YtnodfnjmhcjnfaaGreatDoorHVEncode
/- Append of the program. Condition: names are not longer than a machine holds; moments are not huge. -/
namespace Go.Proofs.YtnodfnjmhcjnfaaGreatDoor
open Go Go.RowKit
set_option maxRecDepth 100000
set_option linter.all false
set_option maxHeartbeats 2000000
variable {H : Hp} {K : AV → Hp → Prop}
theorem blocks_a (tag : ByteArray) (l : List Smp) (o : Bool) (ht : 0 < tag.size) (ht2 : tag.size ≤ 1000) (hl : l.length ≤ 100000) (hs : ∀ s ∈ l, smlS s) (hk : K (.c (.lst 1 ((chB tag l o (List.range (nch l))).map encU))) H) : ACalls Tryz.prog 125 [(.c (.str tag)), .c (.lst 3 (l.map encS)), (.c (.bool o))] H K := by
  refine acallsT Tryz.func125 rfl (by simp (disch := first | omega | (simp only [go_sem]; first | done | omega)) only [go_sem]) (fun hH => ?_)
  refine TWp.go (by kernel_rfl) ?_
  simp (disch := first | omega | (simp only [go_sem]; first | done | omega)) only [go_sem]
  refine TWp.go (by kernel_rfl) ?_
  simp (disch := first | omega | (simp only [go_sem]; first | done | omega)) only [go_sem]
  refine TWp.then ?_
  refine TWp.go (by kernel_rfl) ?_
  simp (disch := first | omega | (simp only [go_sem]; first | done | omega)) only [go_sem]
  refine chunk_a (l.map encS) 100 (by omega) (pureL_map _ (fun x => by simp [go_sem, AC.pure])) ?_
  simp (disch := first | omega | (simp only [go_sem]; first | done | omega)) only [go_sem]
  refine TWp.inB ?_
  refine TWp.range (hp := fun ks => H ++ [.row 9 1 [[.str tag]] true, .row 4 1 [[.bool o]] true, .row 64 1 [[grV (H.length + 5) (chB tag l o ks)]] true, .row 26 1 [[.lst 3 (l.map encS)]] false, .row 3 1 [[.int .i64 100]] false, grO 5 1 ((chB tag l o ks).map encU)]) (inv := fun _ => True) (by simp (disch := first | omega | (simp only [go_sem]; first | done | omega)) only [go_sem]) (by kernel_rfl) (chunk_iter (H.length + 3) (H.length + 4) 100 (l.map encS) 26 3 (by omega) (by omega) (by simp; omega) (by first | ((repeat first | exact at0 (by simp) | refine atS ?_); done) | assumption) (by first | ((repeat first | exact at0 (by simp) | refine atS ?_); done) | assumption)) (fun _ => rfl) (by simp) (fun x v hv => by simp at hv; subst hv; trivial) (by simp) trivial ?_ (fun ks x _ hlen hH1 hH2 => ?_) (fun xs hS _ hH1 hH2 => ?_)
  · simp (disch := first | omega | (simp only [go_sem]; first | done | omega)) only [go_sem]
    exact WkL.padP [_, _, _, _, _] (by simp)
  · rw [parts_map]
    have hb1 := chB_len tag l o ht2 hs ks
    have hpl := parts_len 100 l x
    have hb2 := blockB_len tag (parts 100 l x) o ht2 (by omega) (fun s h => hs s (parts_mem h))
    have hne : blockB tag (parts 100 l x) o ≠ [] := by simp [blockB]
    simp only [List.length_map] at hlen
    rw [chB_snoc]
    have hen : ∀ (H : Hp) (K : AV → Hp → Prop), K (.c (.lst 1 ((blockB tag (parts 100 l x) o).map encU))) H → ACalls Tryz.prog 163 [(.c (.str tag)), .c (.lst 3 ((parts 100 l x).map encS)), (.c (.bool o))] H K := fun H K h => encode_a tag (parts 100 l x) o ht ht2 (by omega) (fun s h => hs s (parts_mem h)) h
    generalize blockB tag (parts 100 l x) o = m at *
    generalize chB tag l o ks = B at *
    refine SWp.of (by kernel_rfl) ?_
    simp (disch := first | omega | (simp only [go_sem]; first | done | omega)) only [go_sem]
    refine SWp.of (by kernel_rfl) ?_
    simp (disch := first | omega | (simp only [go_sem]; first | done | omega)) only [go_sem]
    repeat' (first | ((first | refine acond_d ?_ ?_ | refine acond_b ?_ ?_ | refine ag_d ?_ ?_ | refine ag_n ?_ ?_ | refine ag_bt ?_ ?_ | refine ag_bf ?_ ?_ | refine agt_d ?_ ?_ | refine agt_n ?_ ?_ | refine agt_bt ?_ ?_ | refine agt_bf ?_ ?_) <;> intro c <;> try simp (disch := first | omega | (simp only [go_sem]; first | done | omega)) only [go_sem, c]) | ((first | refine w_draw (by kernel_rfl) (by decide +kernel) ?_ | refine hen _ _ ?_ | refine appU B m (by first | ((repeat first | exact at0 (by simp) | refine atS ?_); done) | assumption) hne (by omega) ?_ | refine w_tree (.one 1 (.one 2 (.one 3 (.two 0 (.one 4 (.one 5 (.one 6 .done))) 4 (.one 0 (.one 5 (.one 6 .done))))))) (by kernel_rfl) (by decide +kernel) ?_) <;> try simp (disch := first | omega | (simp only [go_sem]; first | done | omega)) only [go_sem]) | (refine And.intro ?_ ?_ <;> try simp (disch := first | omega | (simp only [go_sem]; first | done | omega)) only [go_sem]))
    all_goals
      ((try simp (disch := first | omega | (simp only [go_sem]; first | done | omega)) only [go_sem]); (refine WkL.pickR [0, 1, 2, 3, 4, 6] 5 ?_ ?_ ?_ ?_ ?_ ?_ ?_ ?_ ?_) <;> first | assumption | exact HOk.str (by assumption) | (simp; done) | (simp; omega) | (intro j hj; match j, hj with | 0, _ => rfl | 1, _ => rfl | 2, _ => rfl | 3, _ => rfl | 4, _ => rfl) | (intro j hj; match j, hj with | 0, _ => rfl | 1, _ => rfl | 2, _ => rfl | 3, _ => rfl) | (intro j hj; match j, hj with | 0, _ => rfl | 1, _ => rfl | 2, _ => rfl) | (intro j hj; match j, hj with | 0, _ => rfl | 1, _ => rfl) | (intro j hj; match j, hj with | 0, _ => rfl) | (simp only [List.map_cons, List.map_nil, av_ren_gr]; (try simp only [AV.ren, AV.ren1, AC.ren, renP, List.map_cons, List.map_nil]); (try simp only [pickS_add, pickS_zero]); rfl) | (simp only [List.map_cons, List.map_nil, row_ren, grV_ren]; (try rw [grO_ren _ _ _ (pureL_map _ (fun x => by simp [go_sem, AC.pure]))]); (try simp only [AC.ren, renP]); (try simp only [pickS_add, pickS_zero]); rfl) | (simp only [List.forall_mem_cons, List.not_mem_nil, false_implies, implies_true, and_true]; (repeat' apply And.intro) <;> first | trivial | exact grV_ok (by simp) _ | exact okN_grO (fun x => by simp [go_sem, AC.pure]) | exact okN_map (fun x => by simp [go_sem, AC.pure]) | (simp [grO, AObj.okN, AC.ok]; done) | (intro e he; simp only [List.mem_singleton] at he; subst he; refine ⟨rfl, ?_⟩; simp only [List.forall_mem_cons, List.not_mem_nil, false_implies, implies_true, and_true]; (repeat' apply And.intro) <;> first | trivial | exact grV_ok (by simp) _ | (simp [AC.ok]; done) | (simp [AC.ok]; omega)) | (simp [AV.ok, AV.ok1, AC.ok]; done) | (simp [AV.ok, AV.ok1, AC.ok]; omega) | (simp [AObj.okN, AC.ok]; done)))
  · obtain ⟨q, q1, q2, rfl⟩ := hS
    simp only [List.length_map] at q1 q2
    have hq : q = nch l := by unfold nch; omega
    subst hq
    generalize chB tag l o (List.range (nch l)) = B at *
    simp (disch := first | omega | (simp only [go_sem]; first | done | omega)) only [go_sem]
    refine TWp.end (by kernel_rfl) ?_
    simp (disch := first | omega | (simp only [go_sem]; first | done | omega)) only [go_sem]
    exact Ret.frzGr 5 hH (Nat.le_refl _) rfl (pureL_U _) (map_grV _ _ _).symm hk
end Go.Proofs.YtnodfnjmhcjnfaaGreatDoor
/- What the document answers of a file's blocks: its fault, index, tags, blocks found. No condition but that the file is no longer than a machine holds. -/
namespace Go.Proofs.YtnodfnjmhcjnfaaGreatDoor
open Go Go.RowKit
set_option maxRecDepth 100000
set_option linter.all false
set_option maxHeartbeats 2000000
variable {H : Hp} {K : AV → Hp → Prop}
attribute [go_sem, simp] encBk
end Go.Proofs.YtnodfnjmhcjnfaaGreatDoor
