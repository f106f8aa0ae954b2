/- Blocks of chunks. No condition. -/
import Derived.Test.YtnodfnjmhcjnfaaGreatDoorHVAnswerR
import Derived.Test.YtnodfnjmhcjnfaaGreatDoorHVBack
import Derived.Test.YtnodfnjmhcjnfaaGreatDoorHVGA
import Derived.Test.YtnodfnjmhcjnfaaGreatDoorHVEncoded
namespace Go.Proofs.YtnodfnjmhcjnfaaGreatDoor
open Go Go.RowKit
set_option maxRecDepth 100000
set_option linter.all false
set_option maxHeartbeats 1000000
variable {H : Hp} {K : AV → Hp → Prop}
theorem chunk_a (els : List (List AC)) (n : Int) (hn : 1 ≤ n) (hp : pureL els = true)
    (hk : K (.c (.fn 286 [] [(H.length, 0, 0), (H.length + 1, 0, 0)])) (H ++ [.row 26 1 [[.lst 3 els]] false, .row 3 1 [[.int .i64 n]] false])) :
    ACalls Tryz.prog 211 [.c (.lst 3 els), (.c (.int .i64 n))] H K := by
  refine acalls Tryz.func211 rfl (by kernel_rfl) (by simp (disch := first | omega | (simp only [go_sem]; first | done | omega)) only [go_sem]) (fun hH => ?_)
  simp (disch := first | omega | (simp only [go_sem]; first | done | omega)) only [go_sem]
  refine Ret.frz (i := H.length) (by first | ((repeat first | exact at0 (by simp) | refine atS ?_); done) | assumption) (by simp [pureL, AC.pure]) (by simp) ?_
  refine Ret.frz (i := H.length + 1) (ty := 3) (sz := 1) (els := [[.int .i64 n]]) (own := true) (by simp) (by simp [pureL, AC.pure]) (by simp) ?_
  have e : ((H ++ [AObj.row 26 1 [[.lst 3 els]] true, .row 3 1 [[.int .i64 n]] true]).set H.length (.row 26 1 [[.lst 3 els]] false)).set (H.length + 1) (.row 3 1 [[.int .i64 n]] false) = H ++ [.row 26 1 [[.lst 3 els]] false, .row 3 1 [[.int .i64 n]] false] := by
    simp [List.set_append]
  rw [e]
  exact Ret.same (by simp) hk
def nch (l : List Smp) : Nat := (l.length + 99) / 100
def chB (tag : ByteArray) (l : List Smp) (o : Bool) (ks : List Nat) : List UInt8 := ks.flatMap fun k => blockB tag (parts 100 l k) o
theorem blockB_len (tag : ByteArray) (l : List Smp) (o : Bool) (ht2 : tag.size ≤ 1000) (hl : l.length ≤ 1000) (hs : ∀ s ∈ l, smlS s) : (blockB tag l o).length ≤ 20000 := by
  have h1 := headB_len tag l.length o ht2 hl
  have h2 := smpsB_len l ⟨0, 0, 0⟩ (by simp [smlS]) hs
  simp only [blockB, bodyB, List.length_append, List.length_cons, List.length_nil]
  omega
theorem parts_len {α : Type} (n : Nat) (l : List α) (k : Nat) : (parts n l k).length ≤ n := by simp [parts]; omega
theorem parts_mem {α : Type} {n : Nat} {l : List α} {k : Nat} {x : α} (h : x ∈ parts n l k) : x ∈ l := List.mem_of_mem_drop (List.mem_of_mem_take h)
theorem parts_map {α β : Type} (f : α → β) (n : Nat) (l : List α) (k : Nat) : parts n (l.map f) k = (parts n l k).map f := by simp [parts, List.map_take, List.map_drop]
theorem chB_len (tag : ByteArray) (l : List Smp) (o : Bool) (ht2 : tag.size ≤ 1000) (hs : ∀ s ∈ l, smlS s) : ∀ ks : List Nat, (chB tag l o ks).length ≤ 20000 * ks.length
  | [] => by simp [chB]
  | k :: ks => by
    have h1 := blockB_len tag (parts 100 l k) o ht2 (by have := parts_len 100 l k; omega) (fun s h => hs s (parts_mem h))
    have h2 := chB_len tag l o ht2 hs ks
    simp only [chB, List.flatMap_cons, List.length_append, List.length_cons] at h2 ⊢
    omega
theorem chB_snoc (tag : ByteArray) (l : List Smp) (o : Bool) (ks : List Nat) (k : Nat) : chB tag l o (ks ++ [k]) = chB tag l o ks ++ blockB tag (parts 100 l k) o := by simp [chB]
theorem chunksR_a (tag : ByteArray) (l : List Smp) (o : Bool) (ht : 0 < tag.size) (ht2 : tag.size ≤ 1000) (hl : l.length ≤ 100000) (hs : ∀ s ∈ l, smlS s) (hk : K (.c (.lst 1 ((chB tag l o (List.range (nch l))).map encU))) H) : ACalls Tryz.prog 239 [(.c (.str tag)), .c (.lst 3 (l.map encS)), (.c (.bool o))] H K := by
  refine acallsT Tryz.func239 rfl (by simp (disch := first | omega | (simp only [go_sem]; first | done | omega)) only [go_sem]) (fun hH => ?_)
  refine TWp.go (by kernel_rfl) ?_
  simp (disch := first | omega | (simp only [go_sem]; first | done | omega)) only [go_sem]
  refine TWp.go (by kernel_rfl) ?_
  simp (disch := first | omega | (simp only [go_sem]; first | done | omega)) only [go_sem]
  refine TWp.then ?_
  refine TWp.go (by kernel_rfl) ?_
  simp (disch := first | omega | (simp only [go_sem]; first | done | omega)) only [go_sem]
  refine chunk_a (l.map encS) 100 (by omega) (pureL_map _ (fun x => by simp [go_sem, AC.pure])) ?_
  simp (disch := first | omega | (simp only [go_sem]; first | done | omega)) only [go_sem]
  refine TWp.inB ?_
  refine TWp.range (hp := fun ks => H ++ [.row 9 1 [[.str tag]] true, .row 4 1 [[.bool o]] true, .row 64 1 [[grV (H.length + 5) (chB tag l o ks)]] true, .row 26 1 [[.lst 3 (l.map encS)]] false, .row 3 1 [[.int .i64 100]] false, grO 5 1 ((chB tag l o ks).map encU)]) (inv := fun _ => True) (by simp (disch := first | omega | (simp only [go_sem]; first | done | omega)) only [go_sem]) (by kernel_rfl) (chunk_iter (H.length + 3) (H.length + 4) 100 (l.map encS) 26 3 (by omega) (by omega) (by simp; omega) (by first | ((repeat first | exact at0 (by simp) | refine atS ?_); done) | assumption) (by first | ((repeat first | exact at0 (by simp) | refine atS ?_); done) | assumption)) (fun _ => rfl) (by simp) (fun x v hv => by simp at hv; subst hv; trivial) (by simp) trivial ?_ (fun ks x _ hlen hH1 hH2 => ?_) (fun xs hS _ hH1 hH2 => ?_)
  · simp (disch := first | omega | (simp only [go_sem]; first | done | omega)) only [go_sem]
    exact WkL.padP [_, _, _, _, _] (by simp)
  · rw [parts_map]
    have hb1 := chB_len tag l o ht2 hs ks
    have hpl := parts_len 100 l x
    have hb2 := blockB_len tag (parts 100 l x) o ht2 (by omega) (fun s h => hs s (parts_mem h))
    have hne : blockB tag (parts 100 l x) o ≠ [] := by simp [blockB]
    simp only [List.length_map] at hlen
    rw [chB_snoc]
    have hen : ∀ (H : Hp) (K : AV → Hp → Prop), K (.c (.lst 1 ((blockB tag (parts 100 l x) o).map encU))) H → ACalls Tryz.prog 297 [(.c (.str tag)), .c (.lst 3 ((parts 100 l x).map encS)), (.c (.bool o))] H K := fun H K h => encoded_a tag (parts 100 l x) o ht ht2 (by omega) (fun s h => hs s (parts_mem h)) h
    generalize blockB tag (parts 100 l x) o = m at *
    generalize chB tag l o ks = B at *
    refine SWp.of (by kernel_rfl) ?_
    simp (disch := first | omega | (simp only [go_sem]; first | done | omega)) only [go_sem]
    refine SWp.of (by kernel_rfl) ?_
    simp (disch := first | omega | (simp only [go_sem]; first | done | omega)) only [go_sem]
    repeat' (first | ((first | refine acond_d ?_ ?_ | refine acond_b ?_ ?_ | refine ag_d ?_ ?_ | refine ag_n ?_ ?_ | refine ag_bt ?_ ?_ | refine ag_bf ?_ ?_ | refine agt_d ?_ ?_ | refine agt_n ?_ ?_ | refine agt_bt ?_ ?_ | refine agt_bf ?_ ?_) <;> intro c <;> try simp (disch := first | omega | (simp only [go_sem]; first | done | omega)) only [go_sem, c]) | ((first | refine w_draw (by kernel_rfl) (by decide +kernel) ?_ | refine hen _ _ ?_ | refine appU B m (by first | ((repeat first | exact at0 (by simp) | refine atS ?_); done) | assumption) hne (by omega) ?_ | refine w_tree (.one 1 (.one 2 (.one 3 (.two 0 (.one 4 (.one 5 (.one 6 .done))) 4 (.one 0 (.one 5 (.one 6 .done))))))) (by kernel_rfl) (by decide +kernel) ?_) <;> try simp (disch := first | omega | (simp only [go_sem]; first | done | omega)) only [go_sem]) | (refine And.intro ?_ ?_ <;> try simp (disch := first | omega | (simp only [go_sem]; first | done | omega)) only [go_sem]))
    all_goals
      ((try simp (disch := first | omega | (simp only [go_sem]; first | done | omega)) only [go_sem]); (refine WkL.pickR [0, 1, 2, 3, 4, 6] 5 ?_ ?_ ?_ ?_ ?_ ?_ ?_ ?_ ?_) <;> first | assumption | exact HOk.str (by assumption) | (simp; done) | (simp; omega) | (intro j hj; match j, hj with | 0, _ => rfl | 1, _ => rfl | 2, _ => rfl | 3, _ => rfl | 4, _ => rfl) | (intro j hj; match j, hj with | 0, _ => rfl | 1, _ => rfl | 2, _ => rfl | 3, _ => rfl) | (intro j hj; match j, hj with | 0, _ => rfl | 1, _ => rfl | 2, _ => rfl) | (intro j hj; match j, hj with | 0, _ => rfl | 1, _ => rfl) | (intro j hj; match j, hj with | 0, _ => rfl) | (simp only [List.map_cons, List.map_nil, av_ren_gr]; (try simp only [AV.ren, AV.ren1, AC.ren, renP, List.map_cons, List.map_nil]); (try simp only [pickS_add, pickS_zero]); rfl) | (simp only [List.map_cons, List.map_nil, row_ren, grV_ren]; (try rw [grO_ren _ _ _ (pureL_map _ (fun x => by simp [go_sem, AC.pure]))]); (try simp only [AC.ren, renP]); (try simp only [pickS_add, pickS_zero]); rfl) | (simp only [List.forall_mem_cons, List.not_mem_nil, false_implies, implies_true, and_true]; (repeat' apply And.intro) <;> first | trivial | exact grV_ok (by simp) _ | exact okN_grO (fun x => by simp [go_sem, AC.pure]) | exact okN_map (fun x => by simp [go_sem, AC.pure]) | (simp [grO, AObj.okN, AC.ok]; done) | (intro e he; simp only [List.mem_singleton] at he; subst he; refine ⟨rfl, ?_⟩; simp only [List.forall_mem_cons, List.not_mem_nil, false_implies, implies_true, and_true]; (repeat' apply And.intro) <;> first | trivial | exact grV_ok (by simp) _ | (simp [AC.ok]; done) | (simp [AC.ok]; omega)) | (simp [AV.ok, AV.ok1, AC.ok]; done) | (simp [AV.ok, AV.ok1, AC.ok]; omega) | (simp [AObj.okN, AC.ok]; done)))
  · obtain ⟨q, q1, q2, rfl⟩ := hS
    simp only [List.length_map] at q1 q2
    have hq : q = nch l := by unfold nch; omega
    subst hq
    generalize chB tag l o (List.range (nch l)) = B at *
    simp (disch := first | omega | (simp only [go_sem]; first | done | omega)) only [go_sem]
    refine TWp.end (by kernel_rfl) ?_
    simp (disch := first | omega | (simp only [go_sem]; first | done | omega)) only [go_sem]
    exact Ret.frzGr 5 hH (Nat.le_refl _) rfl (pureL_U _) (map_grV _ _ _).symm hk
end Go.Proofs.YtnodfnjmhcjnfaaGreatDoor
