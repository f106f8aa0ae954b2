/- Several texts in one: Append of the program, and what follows. No condition. -/
import Derived.Test.YtnodfnjmhcjnfaaGreatHVBlkC
import Derived.Test.YtnodfnjmhcjnfaaGreatHVAppend
import Derived.Test.YtnodfnjmhcjnfaaGreatHVEncode
/- Append of the program. Condition: names are not longer than a machine holds; moments are not huge. -/
namespace Go.Proofs.YtnodfnjmhcjnfaaGreat
open Go Go.RowKit
set_option maxRecDepth 100000
set_option linter.all false
set_option maxHeartbeats 2000000
variable {H : Hp} {K : AV → Hp → Prop}
theorem blocks_a (tag : ByteArray) (l : List Smp) (o : Bool) (ht : 0 < tag.size) (ht2 : tag.size ≤ 1000) (hl : l.length ≤ 100000) (hs : ∀ s ∈ l, smlS s) (hk : K (.c (.lst 1 ((chB tag l o (List.range (nch l))).map encU))) H) : ACalls Tryz.prog 34 [(.c (.str tag)), .c (.lst 3 (l.map encS)), (.c (.bool o))] H K := by
  refine acallsT Tryz.func34 rfl (by simp (disch := first | omega | (simp only [go_sem]; first | done | omega)) only [go_sem]) (fun hH => ?_)
  refine TWp.go (by kernel_rfl) ?_
  simp (disch := first | omega | (simp only [go_sem]; first | done | omega)) only [go_sem]
  refine TWp.go (by kernel_rfl) ?_
  simp (disch := first | omega | (simp only [go_sem]; first | done | omega)) only [go_sem]
  refine TWp.then ?_
  refine TWp.go (by kernel_rfl) ?_
  simp (disch := first | omega | (simp only [go_sem]; first | done | omega)) only [go_sem]
  refine chunk_a (l.map encS) 100 (by omega) (pureL_map _ (fun x => by simp [go_sem, AC.pure])) ?_
  simp (disch := first | omega | (simp only [go_sem]; first | done | omega)) only [go_sem]
  refine TWp.inB ?_
  refine TWp.range (hp := fun ks => H ++ [.row 9 1 [[.str tag]] true, .row 4 1 [[.bool o]] true, .row 26 1 [[grV (H.length + 5) (chB tag l o ks)]] true, .row 30 1 [[.lst 3 (l.map encS)]] false, .row 3 1 [[.int .i64 100]] false, grO 5 1 ((chB tag l o ks).map encU)]) (inv := fun _ => True) (by simp (disch := first | omega | (simp only [go_sem]; first | done | omega)) only [go_sem]) (by kernel_rfl) (chunk_iter (H.length + 3) (H.length + 4) 100 (l.map encS) 30 3 (by omega) (by omega) (by simp; omega) (by first | ((repeat first | exact at0 (by simp) | refine atS ?_); done) | assumption) (by first | ((repeat first | exact at0 (by simp) | refine atS ?_); done) | assumption)) (fun _ => rfl) (by simp) (fun x v hv => by simp at hv; subst hv; trivial) (by simp) trivial ?_ (fun ks x _ hlen hH1 hH2 => ?_) (fun xs hS _ hH1 hH2 => ?_)
  · simp (disch := first | omega | (simp only [go_sem]; first | done | omega)) only [go_sem]
    exact WkL.padP [_, _, _, _, _] (by simp)
  · rw [parts_map]
    have hb1 := chB_len tag l o ht2 hs ks
    have hpl := parts_len 100 l x
    have hb2 := blockB_len tag (parts 100 l x) o ht2 (by omega) (fun s h => hs s (parts_mem h))
    have hne : blockB tag (parts 100 l x) o ≠ [] := by simp [blockB]
    simp only [List.length_map] at hlen
    rw [chB_snoc]
    have hen : ∀ (H : Hp) (K : AV → Hp → Prop), K (.c (.lst 1 ((blockB tag (parts 100 l x) o).map encU))) H → ACalls Tryz.prog 61 [(.c (.str tag)), .c (.lst 3 ((parts 100 l x).map encS)), (.c (.bool o))] H K := fun H K h => encode_a tag (parts 100 l x) o ht ht2 (by omega) (fun s h => hs s (parts_mem h)) h
    generalize blockB tag (parts 100 l x) o = m at *
    generalize chB tag l o ks = B at *
    refine SWp.of (by kernel_rfl) ?_
    simp (disch := first | omega | (simp only [go_sem]; first | done | omega)) only [go_sem]
    refine SWp.of (by kernel_rfl) ?_
    simp (disch := first | omega | (simp only [go_sem]; first | done | omega)) only [go_sem]
    repeat' (first | ((first | refine acond_d ?_ ?_ | refine acond_b ?_ ?_ | refine ag_d ?_ ?_ | refine ag_n ?_ ?_ | refine ag_bt ?_ ?_ | refine ag_bf ?_ ?_ | refine agt_d ?_ ?_ | refine agt_n ?_ ?_ | refine agt_bt ?_ ?_ | refine agt_bf ?_ ?_) <;> intro c <;> try simp (disch := first | omega | (simp only [go_sem]; first | done | omega)) only [go_sem, c]) | ((first | refine w_draw (by kernel_rfl) (by decide +kernel) ?_ | refine hen _ _ ?_ | refine appU B m (by first | ((repeat first | exact at0 (by simp) | refine atS ?_); done) | assumption) hne (by omega) ?_ | refine w_tree (.one 1 (.one 2 (.one 3 (.two 0 (.one 4 (.one 5 (.one 6 .done))) 4 (.one 0 (.one 5 (.one 6 .done))))))) (by kernel_rfl) (by decide +kernel) ?_) <;> try simp (disch := first | omega | (simp only [go_sem]; first | done | omega)) only [go_sem]) | (refine And.intro ?_ ?_ <;> try simp (disch := first | omega | (simp only [go_sem]; first | done | omega)) only [go_sem]))
    all_goals
      ((try simp (disch := first | omega | (simp only [go_sem]; first | done | omega)) only [go_sem]); (refine WkL.pickR [0, 1, 2, 3, 4, 6] 5 ?_ ?_ ?_ ?_ ?_ ?_ ?_ ?_ ?_) <;> first | assumption | exact HOk.str (by assumption) | (simp; done) | (simp; omega) | (intro j hj; match j, hj with | 0, _ => rfl | 1, _ => rfl | 2, _ => rfl | 3, _ => rfl | 4, _ => rfl) | (intro j hj; match j, hj with | 0, _ => rfl | 1, _ => rfl | 2, _ => rfl | 3, _ => rfl) | (intro j hj; match j, hj with | 0, _ => rfl | 1, _ => rfl | 2, _ => rfl) | (intro j hj; match j, hj with | 0, _ => rfl | 1, _ => rfl) | (intro j hj; match j, hj with | 0, _ => rfl) | (simp only [List.map_cons, List.map_nil, av_ren_gr]; (try simp only [AV.ren, AV.ren1, AC.ren, renP, List.map_cons, List.map_nil]); (try simp only [pickS_add, pickS_zero]); rfl) | (simp only [List.map_cons, List.map_nil, row_ren, grV_ren]; (try rw [grO_ren _ _ _ (pureL_map _ (fun x => by simp [go_sem, AC.pure]))]); (try simp only [AC.ren, renP]); (try simp only [pickS_add, pickS_zero]); rfl) | (simp only [List.forall_mem_cons, List.not_mem_nil, false_implies, implies_true, and_true]; (repeat' apply And.intro) <;> first | trivial | exact grV_ok (by simp) _ | exact okN_grO (fun x => by simp [go_sem, AC.pure]) | exact okN_map (fun x => by simp [go_sem, AC.pure]) | (simp [grO, AObj.okN, AC.ok]; done) | (intro e he; simp only [List.mem_singleton] at he; subst he; refine ⟨rfl, ?_⟩; simp only [List.forall_mem_cons, List.not_mem_nil, false_implies, implies_true, and_true]; (repeat' apply And.intro) <;> first | trivial | exact grV_ok (by simp) _ | (simp [AC.ok]; done) | (simp [AC.ok]; omega)) | (simp [AV.ok, AV.ok1, AC.ok]; done) | (simp [AV.ok, AV.ok1, AC.ok]; omega) | (simp [AObj.okN, AC.ok]; done)))
  · obtain ⟨q, q1, q2, rfl⟩ := hS
    simp only [List.length_map] at q1 q2
    have hq : q = nch l := by unfold nch; omega
    subst hq
    generalize chB tag l o (List.range (nch l)) = B at *
    simp (disch := first | omega | (simp only [go_sem]; first | done | omega)) only [go_sem]
    refine TWp.end (by kernel_rfl) ?_
    simp (disch := first | omega | (simp only [go_sem]; first | done | omega)) only [go_sem]
    exact Ret.frzGr 5 hH (Nat.le_refl _) rfl (pureL_U _) (map_grV _ _ _).symm hk
end Go.Proofs.YtnodfnjmhcjnfaaGreat
/- What the program's Find answers. Condition: names are not longer than a machine holds. -/
namespace Go.Proofs.YtnodfnjmhcjnfaaGreat
open Go Go.RowKit
set_option maxRecDepth 100000
set_option linter.all false
set_option maxHeartbeats 2000000
variable {H : Hp} {K : AV → Hp → Prop}
theorem appBk {i q ty : Nat} {own : Bool} {J : AV → Hp → Prop} (l : List Blk) (x : Blk) (l2 : List Blk) (e : l2 = l ++ [x]) (hi : H[i]? = some (grO 75 7 (l.map encBk))) (hj : H[q]? = some (.row ty 7 [encBk x] own)) (hb : l.length ≤ 1000000000)
    (h : J (.c (grV H.length l2)) (H.set i .dead ++ [grO 75 7 (l2.map encBk)])) : aBuiltin Tryz.prog .append #[108, 108] [.c (grV i l), .c (.sl (some (q, 0)) 1)] H J := by
  subst e
  exact app_grR (enc := encBk) (e := 75) (sz := 7) (bs := 64) (z := [.int .i64 0, .int .i64 0, .str ⟨#[]⟩, .int .i64 0, .int .i64 0, .int .i64 0, .bool false]) l [x] (by kernel_rfl) (by kernel_rfl) (by kernel_rfl) (by kernel_rfl) hi (by rw [hj]; rfl) (by simp) rfl (by decide) (by simp; omega) (by simp; omega) h
end Go.Proofs.YtnodfnjmhcjnfaaGreat
/- What the document answers of a file's blocks: its fault, index, tags, blocks found. No condition but that the file is no longer than a machine holds. -/
namespace Go.Proofs.YtnodfnjmhcjnfaaGreat
open Go Go.RowKit
set_option maxRecDepth 100000
set_option linter.all false
set_option maxHeartbeats 2000000
variable {H : Hp} {K : AV → Hp → Prop}
attribute [go_sem, simp] encBk
theorem fileFault_a (l : List UInt8) (hl : l.length ≤ 100000000) (hk : K (.c (.int .i64 ((par l).2.2))) H) : ACalls Tryz.prog 41 [.c (.lst 1 (l.map encU))] H K := by
  refine acalls Tryz.func41 rfl (by kernel_rfl) (by simp (disch := first | omega | (simp only [go_sem]; first | done | omega)) only [go_sem]) (fun hH => ?_)
  simp (disch := first | omega | (simp only [go_sem]; first | done | omega)) only [go_sem]
  refine parse_a l hl ?_
  simp (disch := first | omega | (simp only [go_sem]; first | done | omega)) only [go_sem]
  exact Ret.same (Nat.le_refl _) hk
theorem indexOf_o (l : List UInt8) (hl : l.length ≤ 100000000) (hk : K (.c (grV H.length ((par l).1.map (·.b)))) (H ++ [grO 75 7 (((par l).1.map (·.b)).map encBk)])) : ACalls Tryz.prog 67 [.c (.lst 1 (l.map encU))] H K := by
  have hpl := par_len l
  refine acalls Tryz.func67 rfl (by kernel_rfl) (by simp (disch := first | omega | (simp only [go_sem]; first | done | omega)) only [go_sem]) (fun hH => ?_)
  simp (disch := first | omega | (simp only [go_sem]; first | done | omega)) only [go_sem]
  refine parse_a l hl ?_
  generalize (par l).1 = ps at *
  simp (disch := first | omega | (simp only [go_sem]; first | done | omega)) only [go_sem]
  refine AWp.loop (H.length) [15, 16] [17, 6] (fun (k : Nat) => k ≤ ps.length) (fun (k : Nat) => [(17, (.c (.int .i64 k))), (6, .c (grV H.length ((ps.take k).map (·.b))))]) (fun (k : Nat) => H ++ [grO 75 7 (((ps.take k).map (·.b)).map encBk)]) (fun (k : Nat) => ps.length - k) (by kernel_rfl) (fun _ => rfl) (by kernel_rfl) (by first | (simp; done) | omega) (by first | (simp; done) | (simp; omega) | omega) kl ?_ (fun k hk1 _ _ => ?_)
  · refine Next.mk 0 (by omega) ?_
    exact WkL.pad (by omega)
  by_cases hlt : k < ps.length
  · obtain ⟨x, hx⟩ : ∃ x, x = ps[k] := ⟨_, rfl⟩
    have hnx : (ps.take (k + 1)).map (fun x => x.b) = (ps.take k).map (fun x => x.b) ++ [x.b] := by rw [List.take_succ_eq_append_getElem hlt, ← hx, List.map_append]; rfl
    have hTl : ((ps.take k).map (fun x => x.b)).length ≤ k := by simp; omega
    generalize (ps.take k).map (fun x => x.b) = T at *
    simp (disch := first | omega | (simp only [go_sem]; first | done | omega)) only [go_sem, hlt, ← hx]
    refine appBk T x.b _ hnx (by first | ((repeat first | exact at0 (by simp) | refine atS ?_); done) | assumption) (by first | ((repeat first | exact at0 (by simp) | refine atS ?_); done) | assumption) (by omega) ?_
    simp (disch := first | omega | (simp only [go_sem]; first | done | omega)) only [go_sem]
    refine Next.mk (k + 1) ⟨by omega, by omega⟩ ?_
    exact ow
  · rw [List.take_of_length_le (by omega)]
    simp (disch := first | omega | (simp only [go_sem]; first | done | omega)) only [go_sem]
    exact Ret.same (by simp) hk
theorem indexOf_a (l : List UInt8) (hl : l.length ≤ 100000000) (hk : K (.c (.lst 7 (((par l).1.map (·.b)).map encBk))) H) : ACalls Tryz.prog 67 [.c (.lst 1 (l.map encU))] H K := by
  refine ACalls.postR (indexOf_o l hl (K := fun v G => v = .c (grV H.length ((par l).1.map (·.b))) ∧ G = H ++ [grO 75 7 (((par l).1.map (·.b)).map encBk)]) ⟨rfl, rfl⟩) ?_
  rintro hH _ _ ⟨rfl, rfl⟩
  exact Ret.frzGr 0 hH (Nat.le_refl _) rfl (pureL_map _ (fun x => by simp [encBk, AC.pure])) (map_grV _ _ _).symm hk
theorem tagsOf_a (l : List UInt8) (hl : l.length ≤ 1000000) (hk : K (.c (.lst 1 ((tagF (par l).1).map encSs))) H) : ACalls Tryz.prog 42 [.c (.lst 1 (l.map encU))] H K := by
  have hpl := par_len l
  unfold tagF at hk
  refine acalls Tryz.func42 rfl (by kernel_rfl) (by simp (disch := first | omega | (simp only [go_sem]; first | done | omega)) only [go_sem]) (fun hH => ?_)
  simp (disch := first | omega | (simp only [go_sem]; first | done | omega)) only [go_sem]
  refine indexOf_a l (by omega) ?_
  have hml : ((par l).1.map (·.b)).length = (par l).1.length := List.length_map ..
  have e0 : (par l).1.map (fun x => x.b.tag) = ((par l).1.map (·.b)).map (fun b => b.tag) := by rw [List.map_map]; rfl
  rw [e0] at hk
  generalize (par l).1.map (·.b) = bs at *
  simp (disch := first | omega | (simp only [go_sem]; first | done | omega)) only [go_sem]
  refine AWp.loop (H.length) [7, 8] [9, 3] (fun (k : Nat) => k ≤ bs.length) (fun (k : Nat) => [(9, (.c (.int .i64 k))), (3, .c (grV H.length ((bs.take k).map fun b => b.tag)))]) (fun (k : Nat) => H ++ [grO 9 1 (((bs.take k).map fun b => b.tag).map encSs)]) (fun (k : Nat) => bs.length - k) (by kernel_rfl) (fun _ => rfl) (by kernel_rfl) (by first | (simp; done) | omega) (by first | (simp; done) | (simp; omega) | omega) kl ?_ (fun k q1 _ _ => ?_)
  · refine Next.mk 0 (Nat.zero_le _) ?_
    exact WkL.pad (by omega)
  by_cases hlt : k < bs.length
  · obtain ⟨x, hx⟩ : ∃ x, x = bs[k] := ⟨_, rfl⟩
    have hnx : (bs.take (k + 1)).map (fun b => b.tag) = (bs.take k).map (fun b => b.tag) ++ [x.tag] := by rw [List.take_succ_eq_append_getElem hlt, ← hx, List.map_append]; rfl
    have hln : ((bs.take k).map (fun b => b.tag)).length ≤ k := by simp; omega
    generalize (bs.take k).map (fun b => b.tag) = ns at *
    simp (disch := first | omega | (simp only [go_sem]; first | done | omega)) only [go_sem, hlt, ← hx]
    refine appS ns x.tag _ hnx (by first | ((repeat first | exact at0 (by simp) | refine atS ?_); done) | assumption) (by first | ((repeat first | exact at0 (by simp) | refine atS ?_); done) | assumption) (by omega) ?_
    simp (disch := first | omega | (simp only [go_sem]; first | done | omega)) only [go_sem]
    refine Next.mk (k + 1) ⟨by omega, by omega⟩ ?_
    exact ow
  · have hka : k = bs.length := by omega
    subst hka
    rw [List.take_length]
    have hsl := srtS_len (bs.map fun b => b.tag)
    have hml2 : (bs.map fun b => b.tag).length = bs.length := List.length_map ..
    generalize bs.map (fun b => b.tag) = ns at *
    simp (disch := first | omega | (simp only [go_sem]; first | done | omega)) only [go_sem]
    refine sortVS_a ns (by first | ((repeat first | exact at0 (by simp) | refine atS ?_); done) | assumption) (by omega) ?_
    simp (disch := first | omega | (simp only [go_sem]; first | done | omega)) only [go_sem]
    rw [grV_lenQ _ ns (srtS ns) hsl.symm]
    refine compactVS_a (srtS ns) (by first | ((repeat first | exact at0 (by simp) | refine atS ?_); done) | assumption) (by omega) ?_
    simp (disch := first | omega | (simp only [go_sem]; first | done | omega)) only [go_sem]
    exact Ret.drop hH (Nat.le_refl _) (by simp [AV.ok, AV.ok1, AC.ok]) hk
end Go.Proofs.YtnodfnjmhcjnfaaGreat
