/- A block's bytes: the reference. Condition: the samples are small, the tag is not empty. -/
import Derived.Test.YtnodfnjmhcjnfaaGreatDoorHVEncode
namespace Go.Proofs.YtnodfnjmhcjnfaaGreatDoor
open Go Go.RowKit
set_option maxRecDepth 100000
set_option linter.all false
set_option maxHeartbeats 1000000
variable {H : Hp} {K : AV → Hp → Prop}
theorem putv_a {c j : Nat} (n : Int) (bs : List UInt8) (hc : H[c]? = some (.row 64 1 [[grV j bs]] true)) (hj : H[j]? = some (grO 5 1 (bs.map encU))) (hne : j ≠ c) (ok : okN n) (hbl : bs.length ≤ 1000000)
    (hk : K (.tup []) ((H.set j .dead).set c (.row 64 1 [[grV H.length (bs ++ vb (zig n))]] true) ++ [grO 5 1 ((bs ++ vb (zig n)).map encU)])) : ACalls Tryz.prog 339 [(.c (.int .i64 n)), .c (.ptr (some (c, 0, 0)))] H K := by
  have hl := vb6 ok
  have lc := getElem?_lt hc
  refine acalls Tryz.func339 rfl (by kernel_rfl) (by simp (disch := first | omega | (simp only [go_sem]; first | done | omega)) only [go_sem]) (fun hH => ?_)
  simp (disch := first | omega | (simp only [go_sem]; first | done | omega)) only [go_sem]
  refine varintOf_a n (fun _ => ?_) (fun h => absurd ok h)
  simp (disch := first | omega | (simp only [go_sem]; first | done | omega)) only [go_sem, hc]
  refine appU bs _ hj (vb_ne _) (by omega) ?_
  have hc2 : (H.set j .dead ++ [grO 5 1 ((bs ++ vb (zig n)).map encU)])[c]? = some (.row 64 1 [[grV j bs]] true) := by
    rw [List.getElem?_append_left (by simpa using lc), List.getElem?_set_ne hne]; exact hc
  simp (disch := first | omega | (simp only [go_sem]; first | done | omega)) only [go_sem, hc2]
  exact Ret.same (by simp) hk
theorem encoded_o (tag : ByteArray) (l : List Smp) (o : Bool) (ht : 0 < tag.size) (ht2 : tag.size ≤ 1000) (hl : l.length ≤ 1000) (hs : ∀ s ∈ l, smlS s) (hk : K (.c (grV H.length (blockB tag l o))) (H ++ [grO 5 1 ((blockB tag l o).map encU)])) : ACalls Tryz.prog 297 [(.c (.str tag)), .c (.lst 3 (l.map encS)), (.c (.bool o))] H K := by
  refine acallsS Tryz.func297 rfl (by simp (disch := first | omega | (simp only [go_sem]; first | done | omega)) only [go_sem]) (fun hH => ?_)
  (refine SWp.go (by kernel_rfl) ?_; simp (disch := first | omega | (simp only [go_sem]; first | done | omega)) only [go_sem])
  (refine SWp.go (by kernel_rfl) ?_; simp (disch := first | omega | (simp only [go_sem]; first | done | omega)) only [go_sem])
  refine SWp.cut (H.length) [0, 1] [7] (fun (bs : List UInt8) => bs = [(167 : UInt8), if o then 1 else 0]) (fun (bs : List UInt8) => [(7, .c (.ptr (some (H.length, 0, 0))))]) (fun (bs : List UInt8) => H ++ [.row 64 1 [[grV (H.length + 1) bs]] true, grO 5 1 (bs.map encU)]) (fun _ => rfl) (by kernel_rfl) (by first | (simp; done) | omega) (by first | (simp; done) | (simp; omega) | omega) kl ?_ (fun b1 hb1 _ _ => ?_)
  · refine SWp.of (by kernel_rfl) ?_
    cases o
    · simp (disch := first | omega | (simp only [go_sem]; first | done | omega)) only [go_sem]
      refine Next.mk [167, 0] rfl ?_
      ((try simp (disch := first | omega | (simp only [go_sem]; first | done | omega)) only [go_sem]); (refine WkL.pickR [1, 0] 0 ?_ ?_ ?_ ?_ ?_ ?_ ?_ ?_ ?_) <;> first | assumption | exact HOk.str (by assumption) | (simp; done) | (simp; omega) | (intro j hj; match j, hj with | 0, _ => rfl | 1, _ => rfl | 2, _ => rfl | 3, _ => rfl | 4, _ => rfl) | (intro j hj; match j, hj with | 0, _ => rfl | 1, _ => rfl | 2, _ => rfl | 3, _ => rfl) | (intro j hj; match j, hj with | 0, _ => rfl | 1, _ => rfl | 2, _ => rfl) | (intro j hj; match j, hj with | 0, _ => rfl | 1, _ => rfl) | (intro j hj; match j, hj with | 0, _ => rfl) | (simp only [List.map_cons, List.map_nil, av_ren_gr]; (try simp only [AV.ren, AV.ren1, AC.ren, renP, List.map_cons, List.map_nil]); (try simp only [pickS_add, pickS_zero]); rfl) | (simp only [List.map_cons, List.map_nil, row_ren, grV_ren]; (try rw [grO_ren _ _ _ (pureL_map _ (fun x => by simp [go_sem, AC.pure]))]); (try simp only [AC.ren, renP]); (try simp only [pickS_add, pickS_zero]); rfl) | (simp only [List.forall_mem_cons, List.not_mem_nil, false_implies, implies_true, and_true]; (repeat' apply And.intro) <;> first | trivial | exact grV_ok (by simp) _ | exact okN_grO (fun x => by simp [go_sem, AC.pure]) | exact okN_map (fun x => by simp [go_sem, AC.pure]) | (simp [grO, AObj.okN, AC.ok]; done) | (intro e he; simp only [List.mem_singleton] at he; subst he; refine ⟨rfl, ?_⟩; simp only [List.forall_mem_cons, List.not_mem_nil, false_implies, implies_true, and_true]; (repeat' apply And.intro) <;> first | trivial | exact grV_ok (by simp) _ | (simp [AC.ok]; done) | (simp [AC.ok]; omega)) | (simp [AV.ok, AV.ok1, AC.ok]; done) | (simp [AV.ok, AV.ok1, AC.ok]; omega) | (simp [AObj.okN, AC.ok]; done)))
    · simp (disch := first | omega | (simp only [go_sem]; first | done | omega)) only [go_sem]
      refine Next.mk [167, 1] rfl ?_
      ((try simp (disch := first | omega | (simp only [go_sem]; first | done | omega)) only [go_sem]); (refine WkL.pickR [1, 0] 0 ?_ ?_ ?_ ?_ ?_ ?_ ?_ ?_ ?_) <;> first | assumption | exact HOk.str (by assumption) | (simp; done) | (simp; omega) | (intro j hj; match j, hj with | 0, _ => rfl | 1, _ => rfl | 2, _ => rfl | 3, _ => rfl | 4, _ => rfl) | (intro j hj; match j, hj with | 0, _ => rfl | 1, _ => rfl | 2, _ => rfl | 3, _ => rfl) | (intro j hj; match j, hj with | 0, _ => rfl | 1, _ => rfl | 2, _ => rfl) | (intro j hj; match j, hj with | 0, _ => rfl | 1, _ => rfl) | (intro j hj; match j, hj with | 0, _ => rfl) | (simp only [List.map_cons, List.map_nil, av_ren_gr]; (try simp only [AV.ren, AV.ren1, AC.ren, renP, List.map_cons, List.map_nil]); (try simp only [pickS_add, pickS_zero]); rfl) | (simp only [List.map_cons, List.map_nil, row_ren, grV_ren]; (try rw [grO_ren _ _ _ (pureL_map _ (fun x => by simp [go_sem, AC.pure]))]); (try simp only [AC.ren, renP]); (try simp only [pickS_add, pickS_zero]); rfl) | (simp only [List.forall_mem_cons, List.not_mem_nil, false_implies, implies_true, and_true]; (repeat' apply And.intro) <;> first | trivial | exact grV_ok (by simp) _ | exact okN_grO (fun x => by simp [go_sem, AC.pure]) | exact okN_map (fun x => by simp [go_sem, AC.pure]) | (simp [grO, AObj.okN, AC.ok]; done) | (intro e he; simp only [List.mem_singleton] at he; subst he; refine ⟨rfl, ?_⟩; simp only [List.forall_mem_cons, List.not_mem_nil, false_implies, implies_true, and_true]; (repeat' apply And.intro) <;> first | trivial | exact grV_ok (by simp) _ | (simp [AC.ok]; done) | (simp [AC.ok]; omega)) | (simp [AV.ok, AV.ok1, AC.ok]; done) | (simp [AV.ok, AV.ok1, AC.ok]; omega) | (simp [AObj.okN, AC.ok]; done)))
  have hh0 : okN tag.size := ⟨by omega, by omega⟩
  have hh1 : okN l.length := ⟨by omega, by omega⟩
  have hv0 := vb6 hh0
  have hv1 := vb6 hh1
  have hts : tag.data.toList.length = tag.size := Array.length_toList
  have l1 : b1.length = 2 := by rw [hb1]; rfl
  refine SWp.cut (H.length) [0, 1] [7, 8] (fun (_ : Unit) => True) (fun (_ : Unit) => [(7, .c (.ptr (some (H.length, 0, 0)))), (8, .c (.fn 339 [] [(H.length, 0, 0)]))]) (fun (_ : Unit) => H ++ [.row 64 1 [[grV (H.length + 1) b1]] true, grO 5 1 (b1.map encU)]) (fun _ => rfl) (by kernel_rfl) (by first | (simp; done) | omega) (by first | (simp; done) | (simp; omega) | omega) kl ?_ (fun _ _ _ _ => ?_)
  · refine SWp.of (by kernel_rfl) ?_
    simp (disch := first | omega | (simp only [go_sem]; first | done | omega)) only [go_sem]
    exact Next.mk () trivial wk
  (refine SWp.go (by kernel_rfl) ?_; simp (disch := first | omega | (simp only [go_sem]; first | done | omega)) only [go_sem])
  refine putv_a (j := H.length + 1) _ b1 (by first | ((repeat first | exact at0 (by simp) | refine atS ?_); done) | assumption) (by first | ((repeat first | exact at0 (by simp) | refine atS ?_); done) | assumption) (by omega) hh0 (by omega) ?_
  simp (disch := first | omega | (simp only [go_sem]; first | done | omega)) only [go_sem]
  have l2 : (b1 ++ vb (zig tag.size)).length ≤ 8 := by simp; omega
  generalize hb2 : b1 ++ vb (zig tag.size) = b2 at *
  (refine SWp.go (by kernel_rfl) ?_; simp (disch := first | omega | (simp only [go_sem]; first | done | omega)) only [go_sem])
  refine appUs b2 tag (by first | ((repeat first | exact at0 (by simp) | refine atS ?_); done) | assumption) ht (by omega) ?_
  simp (disch := first | omega | (simp only [go_sem]; first | done | omega)) only [go_sem]
  have l3 : (b2 ++ tag.data.toList).length ≤ 1008 := by simp; omega
  generalize hb3 : b2 ++ tag.data.toList = b3 at *
  (refine SWp.go (by kernel_rfl) ?_; simp (disch := first | omega | (simp only [go_sem]; first | done | omega)) only [go_sem])
  refine putv_a (j := H.length + 3) _ b3 (by first | ((repeat first | exact at0 (by simp) | refine atS ?_); done) | assumption) (by first | ((repeat first | exact at0 (by simp) | refine atS ?_); done) | assumption) (by omega) hh1 (by omega) ?_
  simp (disch := first | omega | (simp only [go_sem]; first | done | omega)) only [go_sem]
  have l4 : (b3 ++ vb (zig l.length)).length ≤ 1020 := by simp; omega
  generalize hb4 : b3 ++ vb (zig l.length) = b4 at *
  have hhd : b4 = headB tag l.length o := by rw [← hb4, ← hb3, ← hb2, hb1]; simp [headB]
  have hbl := headB_len tag l.length o ht2 hl
  clear hb2 hb3 hb4 l2 l3
  refine SWp.cut (H.length) [1] [7, 8, 9] (fun (_ : Unit) => True) (fun (_ : Unit) => [(7, .c (.ptr (some (H.length, 0, 0)))), (8, .c (.fn 339 [] [(H.length, 0, 0)])), (9, .c (.ptr (some (H.length + 1, 0, 0))))]) (fun (_ : Unit) => H ++ [.row 64 1 [[grV (H.length + 2) b4]] true, .row 38 3 [encS ⟨0, 0, 0⟩] true, grO 5 1 (b4.map encU)]) (fun _ => rfl) (by kernel_rfl) (by first | (simp; done) | omega) (by first | (simp; done) | (simp; omega) | omega) kl ?_ (fun _ _ _ _ => ?_)
  · refine SWp.of (by kernel_rfl) ?_
    simp (disch := first | omega | (simp only [go_sem]; first | done | omega)) only [go_sem]
    refine Next.mk () trivial ?_
    ((try simp (disch := first | omega | (simp only [go_sem]; first | done | omega)) only [go_sem]); (refine WkL.pickR [0, 5, 4] 0 ?_ ?_ ?_ ?_ ?_ ?_ ?_ ?_ ?_) <;> first | assumption | exact HOk.str (by assumption) | (simp; done) | (simp; omega) | (intro j hj; match j, hj with | 0, _ => rfl | 1, _ => rfl | 2, _ => rfl | 3, _ => rfl | 4, _ => rfl) | (intro j hj; match j, hj with | 0, _ => rfl | 1, _ => rfl | 2, _ => rfl | 3, _ => rfl) | (intro j hj; match j, hj with | 0, _ => rfl | 1, _ => rfl | 2, _ => rfl) | (intro j hj; match j, hj with | 0, _ => rfl | 1, _ => rfl) | (intro j hj; match j, hj with | 0, _ => rfl) | (simp only [List.map_cons, List.map_nil, av_ren_gr]; (try simp only [AV.ren, AV.ren1, AC.ren, renP, List.map_cons, List.map_nil]); (try simp only [pickS_add, pickS_zero]); rfl) | (simp only [List.map_cons, List.map_nil, row_ren, grV_ren]; (try rw [grO_ren _ _ _ (pureL_map _ (fun x => by simp [go_sem, AC.pure]))]); (try simp only [AC.ren, renP]); (try simp only [pickS_add, pickS_zero]); rfl) | (simp only [List.forall_mem_cons, List.not_mem_nil, false_implies, implies_true, and_true]; (repeat' apply And.intro) <;> first | trivial | exact grV_ok (by simp) _ | exact okN_grO (fun x => by simp [go_sem, AC.pure]) | exact okN_map (fun x => by simp [go_sem, AC.pure]) | (simp [grO, AObj.okN, AC.ok]; done) | (intro e he; simp only [List.mem_singleton] at he; subst he; refine ⟨rfl, ?_⟩; simp only [List.forall_mem_cons, List.not_mem_nil, false_implies, implies_true, and_true]; (repeat' apply And.intro) <;> first | trivial | exact grV_ok (by simp) _ | (simp [AC.ok]; done) | (simp [AC.ok]; omega)) | (simp [AV.ok, AV.ok1, AC.ok]; done) | (simp [AV.ok, AV.ok1, AC.ok]; omega) | (simp [AObj.okN, AC.ok]; done)))
  refine SWp.of (by kernel_rfl) ?_
  simp (disch := first | omega | (simp only [go_sem]; first | done | omega)) only [go_sem]
  refine AWp.loop (H.length + 2) [7, 8, 9, 30, 31] [32] (fun (k : Nat) => k ≤ l.length) (fun (k : Nat) => [(32, (.c (.int .i64 k)))]) (fun (k : Nat) => H ++ [.row 64 1 [[grV (H.length + 2) (b4 ++ smpsB ⟨0, 0, 0⟩ (l.take k))]] true, .row 38 3 [encS (prv ⟨0, 0, 0⟩ l k)] true, grO 5 1 ((b4 ++ smpsB ⟨0, 0, 0⟩ (l.take k)).map encU)]) (fun (k : Nat) => l.length - k) (by kernel_rfl) (fun _ => rfl) (by kernel_rfl) (by first | (simp; done) | omega) (by first | (simp; done) | (simp; omega) | omega) kl ?_ (fun k hk1 _ _ => ?_)
  · refine Next.mk 0 (by omega) ?_
    have e0 : smpsB ⟨0, 0, 0⟩ (l.take 0) = [] := rfl
    (try dsimp only)
    rw [e0, prv_zero, List.append_nil]
    simp (disch := first | omega | (simp only [go_sem]; first | done | omega)) only [go_sem]
    exact WkL.refl (by simp)
  have hpv := prv_sml l hs k
  have hsl := smpsB_len (l.take k) ⟨0, 0, 0⟩ (by simp [smlS]) (fun s hs2 => hs s (List.mem_of_mem_take hs2))
  rw [List.length_take] at hsl
  by_cases hlt : k < l.length
  · have hsk := hs _ (List.getElem_mem hlt)
    have hst := smpsB_step ⟨0, 0, 0⟩ l k hlt
    have hpn := prv_succ ⟨0, 0, 0⟩ l k hlt
    generalize hQ : smpsB ⟨0, 0, 0⟩ (l.take k) = Q at *
    generalize hP : prv ⟨0, 0, 0⟩ l k = P at *
    generalize hX : l[k] = X at *
    obtain ⟨⟨a1, a2⟩, ⟨a3, a4⟩, a5, a6⟩ := hpv
    obtain ⟨⟨c1, c2⟩, ⟨c3, c4⟩, c5, c6⟩ := hsk
    have o1 : okN (X.t - P.t) := ⟨by omega, by omega⟩
    have o2 : okN (X.v - P.v) := ⟨by omega, by omega⟩
    have o3 : okN X.q := ⟨by omega, by omega⟩
    have v1 := vb6 o1
    have v2 := vb6 o2
    have v3 := vb6 o3
    simp (disch := first | omega | (simp only [go_sem]; first | done | omega)) only [go_sem, hlt, hX]
    refine putv_a (j := H.length + 2) _ (b4 ++ Q) (by first | ((repeat first | exact at0 (by simp) | refine atS ?_); done) | assumption) (by first | ((repeat first | exact at0 (by simp) | refine atS ?_); done) | assumption) (by omega) o1 (by simp; omega) ?_
    simp (disch := first | omega | (simp only [go_sem]; first | done | omega)) only [go_sem]
    refine putv_a (j := H.length + 4) _ (b4 ++ (Q ++ vb (zig (X.t - P.t)))) (by first | ((repeat first | exact at0 (by simp) | refine atS ?_); done) | assumption) (by first | ((repeat first | exact at0 (by simp) | refine atS ?_); done) | assumption) (by omega) o2 (by simp; omega) ?_
    simp (disch := first | omega | (simp only [go_sem]; first | done | omega)) only [go_sem]
    refine putv_a (j := H.length + 5) _ (b4 ++ (Q ++ (vb (zig (X.t - P.t)) ++ vb (zig (X.v - P.v))))) (by first | ((repeat first | exact at0 (by simp) | refine atS ?_); done) | assumption) (by first | ((repeat first | exact at0 (by simp) | refine atS ?_); done) | assumption) (by omega) o3 (by simp; omega) ?_
    simp (disch := first | omega | (simp only [go_sem]; first | done | omega)) only [go_sem]
    refine Next.mk (k + 1) (by omega) ?_
    (try dsimp only)
    rw [hst, hpn]
    simp only [smpB, List.append_assoc]
    ((try simp (disch := first | omega | (simp only [go_sem]; first | done | omega)) only [go_sem]); (refine WkL.pickR [0, 1, 6] 2 ?_ ?_ ?_ ?_ ?_ ?_ ?_ ?_ ?_) <;> first | assumption | exact HOk.str (by assumption) | (simp; done) | (simp; omega) | (intro j hj; match j, hj with | 0, _ => rfl | 1, _ => rfl | 2, _ => rfl | 3, _ => rfl | 4, _ => rfl) | (intro j hj; match j, hj with | 0, _ => rfl | 1, _ => rfl | 2, _ => rfl | 3, _ => rfl) | (intro j hj; match j, hj with | 0, _ => rfl | 1, _ => rfl | 2, _ => rfl) | (intro j hj; match j, hj with | 0, _ => rfl | 1, _ => rfl) | (intro j hj; match j, hj with | 0, _ => rfl) | (simp only [List.map_cons, List.map_nil, av_ren_gr]; (try simp only [AV.ren, AV.ren1, AC.ren, renP, List.map_cons, List.map_nil]); (try simp only [pickS_add, pickS_zero]); rfl) | (simp only [List.map_cons, List.map_nil, row_ren, grV_ren]; (try rw [grO_ren _ _ _ (pureL_map _ (fun x => by simp [go_sem, AC.pure]))]); (try simp only [AC.ren, renP]); (try simp only [pickS_add, pickS_zero]); rfl) | (simp only [List.forall_mem_cons, List.not_mem_nil, false_implies, implies_true, and_true]; (repeat' apply And.intro) <;> first | trivial | exact grV_ok (by simp) _ | exact okN_grO (fun x => by simp [go_sem, AC.pure]) | exact okN_map (fun x => by simp [go_sem, AC.pure]) | (simp [grO, AObj.okN, AC.ok]; done) | (intro e he; simp only [List.mem_singleton] at he; subst he; refine ⟨rfl, ?_⟩; simp only [List.forall_mem_cons, List.not_mem_nil, false_implies, implies_true, and_true]; (repeat' apply And.intro) <;> first | trivial | exact grV_ok (by simp) _ | (simp [AC.ok]; done) | (simp [AC.ok]; omega)) | (simp [AV.ok, AV.ok1, AC.ok]; done) | (simp [AV.ok, AV.ok1, AC.ok]; omega) | (simp [AObj.okN, AC.ok]; done)))
  · obtain rfl : k = l.length := by omega
    simp (disch := first | omega | (simp only [go_sem]; first | done | omega)) only [go_sem, hlt]
    rw [List.take_of_length_le (Nat.le_refl _)] at hsl
    have hbd : b4 ++ smpsB ⟨0, 0, 0⟩ l = bodyB tag l o := by rw [hhd]; rfl
    have hlb : (b4 ++ smpsB ⟨0, 0, 0⟩ l).length ≤ 20000 := by simp; omega
    generalize hB : b4 ++ smpsB ⟨0, 0, 0⟩ l = B at *
    refine csum_lend B (by first | ((repeat first | exact at0 (by simp) | refine atS ?_); done) | assumption) (fun G J hJ => checksumR_a B (by omega) hJ) ?_
    have hcs := csum_lt B
    simp (disch := first | omega | (simp only [go_sem]; first | done | omega)) only [go_sem]
    refine appUr B [u8I ((csum B / 256 : Nat)), u8I ((csum B % 256 : Nat))] (by first | ((repeat first | exact at0 (by simp) | refine atS ?_); done) | assumption) ?_ (by simp) (by simp; omega) ?_
    · have g1 := u8I_toNat ((csum B / 256 : Nat)) (by omega)
      have g2 := u8I_toNat ((csum B % 256 : Nat)) (by omega)
      simp only [List.map_cons, List.map_nil, encU, g1, g2]
      simp (disch := first | omega | (simp only [go_sem]; first | done | omega)) only [go_sem]
      simp [srcO]
    simp (disch := first | omega | (simp only [go_sem]; first | done | omega)) only [go_sem]
    have hf : blockB tag l o = B ++ [u8I ((csum B / 256 : Nat)), u8I ((csum B % 256 : Nat))] := by unfold blockB; rw [← hbd]
    rw [hf] at hk
    generalize B ++ [u8I ((csum B / 256 : Nat)), u8I ((csum B % 256 : Nat))] = Z at *
    trace_state
    refine Ret.pick [4] hH (Nat.le_refl _) (L := [grO 5 1 (Z.map encU)]) rfl (by simp) (by simp only [List.all_cons, List.all_nil, Bool.and_true]; exact pureO_gr (pureL_U _)) (v' := .c (grV H.length Z)) ?_ ?_ hk
    · cases Z <;> simp [AV.ren, AV.ren1, AC.ren, pickS, grV]
    · cases Z <;> simp [AV.ok, AV.ok1, AC.ok, grV]
theorem encoded_a (tag : ByteArray) (l : List Smp) (o : Bool) (ht : 0 < tag.size) (ht2 : tag.size ≤ 1000) (hl : l.length ≤ 1000) (hs : ∀ s ∈ l, smlS s) (hk : K (.c (.lst 1 ((blockB tag l o).map encU))) H) : ACalls Tryz.prog 297 [(.c (.str tag)), .c (.lst 3 (l.map encS)), (.c (.bool o))] H K := by
  refine ACalls.postR (encoded_o tag l o ht ht2 hl hs (K := fun v G => v = .c (grV H.length (blockB tag l o)) ∧ G = H ++ [grO 5 1 ((blockB tag l o).map encU)]) ⟨rfl, rfl⟩) ?_
  rintro hH v G ⟨rfl, rfl⟩
  exact Ret.frzGr 0 hH (Nat.le_refl _) rfl (pureL_U _) (by simp [map_grV]) hk
end Go.Proofs.YtnodfnjmhcjnfaaGreatDoor
