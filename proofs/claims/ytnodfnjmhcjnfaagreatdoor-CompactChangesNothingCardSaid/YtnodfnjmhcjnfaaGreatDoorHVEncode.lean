/- A block's bytes. Condition: the samples are small, the tag is not empty. -/
import Derived.Test.YtnodfnjmhcjnfaaGreatDoorHVBytes3
import Derived.Test.YtnodfnjmhcjnfaaGreatDoorHVBack
import Derived.Test.YtnodfnjmhcjnfaaGreatDoorHVStr
namespace Go.Proofs.YtnodfnjmhcjnfaaGreatDoor
open Go Go.RowKit
set_option maxRecDepth 100000
set_option linter.all false
set_option maxHeartbeats 1000000
variable {H : Hp} {K : AV → Hp → Prop}
def smpB (p s : Smp) : List UInt8 := vb (zig (s.t - p.t)) ++ vb (zig (s.v - p.v)) ++ vb (zig s.q)
def smpsB : Smp → List Smp → List UInt8
  | _, [] => []
  | p, s :: r => smpB p s ++ smpsB s r
def headB (tag : ByteArray) (n : Nat) (o : Bool) : List UInt8 := [167, if o then 1 else 0] ++ vb (zig tag.size) ++ tag.data.toList ++ vb (zig n)
def bodyB (tag : ByteArray) (l : List Smp) (o : Bool) : List UInt8 := headB tag l.length o ++ smpsB ⟨0, 0, 0⟩ l
def blockB (tag : ByteArray) (l : List Smp) (o : Bool) : List UInt8 := bodyB tag l o ++ [u8I ((csum (bodyB tag l o) / 256 : Nat)), u8I ((csum (bodyB tag l o) % 256 : Nat))]
def smlS (s : Smp) : Prop := (-400000000000 ≤ s.t ∧ s.t ≤ 400000000000) ∧ (-1000000 ≤ s.v ∧ s.v ≤ 1000000) ∧ -1000000 ≤ s.q ∧ s.q ≤ 1000000
theorem vb_ne (z : Nat) : vb z ≠ [] := by have := vb_pos z; intro h; rw [h] at this; simp at this
theorem vb6 {n : Int} (h : okN n) : (vb (zig n)).length ≤ 6 := vb_len6 (by have := zig_most n h; omega)
theorem smpsB_snoc : ∀ (l : List Smp) (p s : Smp), smpsB p (l ++ [s]) = smpsB p l ++ smpB ((p :: l).getLast (by simp)) s
  | [], p, s => by simp [smpsB]
  | x :: l, p, s => by
    rw [List.cons_append, smpsB, smpsB, smpsB_snoc l x s, List.append_assoc]
    simp
theorem prv_last (p : Smp) (l : List Smp) (k : Nat) (hk : k ≤ l.length) : (p :: l.take k).getLast (by simp) = prv p l k := by
  rw [List.getLast_eq_getElem]
  unfold prv
  simp only [List.length_cons, List.length_take, Nat.add_sub_cancel, Nat.min_eq_left hk]
  cases k with
  | zero => rfl
  | succ k => simp [List.getD, show k < l.length by omega]
theorem smpsB_step (p : Smp) (l : List Smp) (k : Nat) (hk : k < l.length) : smpsB p (l.take (k + 1)) = smpsB p (l.take k) ++ smpB (prv p l k) l[k] := by
  rw [take_snoc l k hk, smpsB_snoc, prv_last p l k (by omega)]
theorem prv_sml (l : List Smp) (h : ∀ s ∈ l, smlS s) (k : Nat) : smlS (prv ⟨0, 0, 0⟩ l k) := by
  unfold prv
  rw [List.getD_eq_getElem?_getD]
  cases hk : ((⟨0, 0, 0⟩ : Smp) :: l)[k]? with
  | none => simp [smlS]
  | some s =>
    rcases List.mem_cons.1 (List.mem_of_getElem? hk) with rfl | h1
    · simp [smlS]
    · exact h s h1
theorem smpB_len {p s : Smp} (hp : smlS p) (hs : smlS s) : (smpB p s).length ≤ 18 := by
  obtain ⟨⟨a1, a2⟩, ⟨a3, a4⟩, a5, a6⟩ := hp
  obtain ⟨⟨b1, b2⟩, ⟨b3, b4⟩, b5, b6⟩ := hs
  have h1 := vb6 (n := s.t - p.t) ⟨by omega, by omega⟩
  have h2 := vb6 (n := s.v - p.v) ⟨by omega, by omega⟩
  have h3 := vb6 (n := s.q) ⟨by omega, by omega⟩
  simp only [smpB, List.length_append]
  omega
theorem smpsB_len : ∀ (l : List Smp) (p : Smp), smlS p → (∀ s ∈ l, smlS s) → (smpsB p l).length ≤ 18 * l.length
  | [], _, _, _ => by simp [smpsB]
  | s :: l, p, hp, h => by
    have h1 := smpB_len hp (h s (by simp))
    have h2 := smpsB_len l s (h s (by simp)) (fun x hx => h x (by simp [hx]))
    simp only [smpsB, List.length_append, List.length_cons]
    omega
theorem headB_len (tag : ByteArray) (n : Nat) (o : Bool) (ht : tag.size ≤ 1000) (hn : n ≤ 1000) : (headB tag n o).length ≤ 1020 := by
  have h1 := vb6 (n := tag.size) ⟨by omega, by omega⟩
  have h2 := vb6 (n := n) ⟨by omega, by omega⟩
  have h3 : tag.data.toList.length = tag.size := Array.length_toList
  simp only [headB, List.length_append, List.length_cons, List.length_nil]
  omega
theorem encode_a (tag : ByteArray) (l : List Smp) (o : Bool) (ht : 0 < tag.size) (ht2 : tag.size ≤ 1000) (hl : l.length ≤ 1000) (hs : ∀ s ∈ l, smlS s) (hk : K (.c (.lst 1 ((blockB tag l o).map encU))) H) : ACalls Tryz.prog 163 [(.c (.str tag)), .c (.lst 3 (l.map encS)), (.c (.bool o))] H K := by
  refine acallsS Tryz.func163 rfl (by simp (disch := first | omega | (simp only [go_sem]; first | done | omega)) only [go_sem]) (fun hH => ?_)
  (refine SWp.go (by kernel_rfl) ?_; simp (disch := first | omega | (simp only [go_sem]; first | done | omega)) only [go_sem])
  (refine SWp.go (by kernel_rfl) ?_; simp (disch := first | omega | (simp only [go_sem]; first | done | omega)) only [go_sem])
  refine SWp.cut (H.length) [0, 1] [7] (fun (bs : List UInt8) => bs = [(167 : UInt8), if o then 1 else 0]) (fun (bs : List UInt8) => [(7, .c (grV H.length bs))]) (fun (bs : List UInt8) => H ++ [grO 5 1 (bs.map encU)]) (fun _ => rfl) (by kernel_rfl) (by first | (simp; done) | omega) (by first | (simp; done) | (simp; omega) | omega) kl ?_ (fun b1 hb1 _ _ => ?_)
  · refine SWp.of (by kernel_rfl) ?_
    cases o
    · simp (disch := first | omega | (simp only [go_sem]; first | done | omega)) only [go_sem]
      refine Next.mk [167, 0] rfl ?_
      simp (disch := first | omega | (simp only [go_sem]; first | done | omega)) only [go_sem]
      exact WkL.refl (by simp)
    · simp (disch := first | omega | (simp only [go_sem]; first | done | omega)) only [go_sem]
      refine Next.mk [167, 1] rfl ?_
      simp (disch := first | omega | (simp only [go_sem]; first | done | omega)) only [go_sem]
      exact WkL.refl (by simp)
  have hh0 : (vb (zig tag.size)).length ≤ 6 := vb6 ⟨by omega, by omega⟩
  have hh1 : (vb (zig l.length)).length ≤ 6 := vb6 ⟨by omega, by omega⟩
  have hts : tag.data.toList.length = tag.size := Array.length_toList
  have l1 : b1.length = 2 := by rw [hb1]; rfl
  (refine SWp.go (by kernel_rfl) ?_; simp (disch := first | omega | (simp only [go_sem]; first | done | omega)) only [go_sem])
  refine varint_a _ (by omega) (by omega) ?_
  simp (disch := first | omega | (simp only [go_sem]; first | done | omega)) only [go_sem]
  refine appU b1 _ (by first | ((repeat first | exact at0 (by simp) | refine atS ?_); done) | assumption) (vb_ne _) (by omega) ?_
  simp (disch := first | omega | (simp only [go_sem]; first | done | omega)) only [go_sem]
  have l2 : (b1 ++ vb (zig tag.size)).length ≤ 8 := by simp; omega
  generalize hb2 : b1 ++ vb (zig tag.size) = b2 at *
  (refine SWp.go (by kernel_rfl) ?_; simp (disch := first | omega | (simp only [go_sem]; first | done | omega)) only [go_sem])
  refine appUs b2 tag (by first | ((repeat first | exact at0 (by simp) | refine atS ?_); done) | assumption) ht (by omega) ?_
  simp (disch := first | omega | (simp only [go_sem]; first | done | omega)) only [go_sem]
  have l3 : (b2 ++ tag.data.toList).length ≤ 1008 := by simp; omega
  generalize hb3 : b2 ++ tag.data.toList = b3 at *
  (refine SWp.go (by kernel_rfl) ?_; simp (disch := first | omega | (simp only [go_sem]; first | done | omega)) only [go_sem])
  refine varint_a _ (by omega) (by omega) ?_
  simp (disch := first | omega | (simp only [go_sem]; first | done | omega)) only [go_sem]
  refine appU b3 _ (by first | ((repeat first | exact at0 (by simp) | refine atS ?_); done) | assumption) (vb_ne _) (by omega) ?_
  simp (disch := first | omega | (simp only [go_sem]; first | done | omega)) only [go_sem]
  have l4 : (b3 ++ vb (zig l.length)).length ≤ 1020 := by simp; omega
  generalize hb4 : b3 ++ vb (zig l.length) = b4 at *
  have hhd : b4 = headB tag l.length o := by rw [← hb4, ← hb3, ← hb2, hb1]; simp [headB]
  have hbl := headB_len tag l.length o ht2 hl
  clear hb2 hb3 hb4 l2 l3
  refine SWp.cut (H.length) [1] [7, 8] (fun (_ : Unit) => True) (fun (_ : Unit) => [(7, .c (grV (H.length + 1) b4)), (8, .c (.ptr (some (H.length, 0, 0))))]) (fun (_ : Unit) => H ++ [.row 38 3 [encS ⟨0, 0, 0⟩] true, grO 5 1 (b4.map encU)]) (fun _ => rfl) (by kernel_rfl) (by first | (simp; done) | omega) (by first | (simp; done) | (simp; omega) | omega) kl ?_ (fun _ _ _ _ => ?_)
  · refine SWp.of (by kernel_rfl) ?_
    simp (disch := first | omega | (simp only [go_sem]; first | done | omega)) only [go_sem]
    refine Next.mk () trivial ?_
    ((try simp (disch := first | omega | (simp only [go_sem]; first | done | omega)) only [go_sem]); (refine WkL.pick [4, 3] ?_ ?_ rfl ?_ ?_ ?_ ?_) <;> first | (simp only [List.map_cons, List.map_nil, av_ren_gr]; (try simp only [AV.ren, AV.ren1, AC.ren, renP]); (try simp only [pickS_add, pickS_zero]); rfl) | (simp only [List.all_cons, List.all_nil, Bool.and_true, Bool.and_eq_true]; (repeat' apply And.intro) <;> first | exact pureO_gr (pureL_map _ (fun x => by simp [go_sem, AC.pure])) | (simp [AObj.pureO, pureL, go_sem, AC.pure]; done)) | assumption | exact HOk.str (by assumption) | (simp; done) | (simp; omega) | (simp [pureO_gr, AObj.pureO, pureL, go_sem, AC.pure]; done) | (simp only [List.all_cons, List.all_nil, Bool.and_true]; exact pureO_gr (pureL_map _ (fun x => by simp [go_sem, AC.pure]))) | ((try simp only [List.map_cons, List.map_nil, av_ren_gr]); simp [AV.ren, AV.ren1, AC.ren, renP, pickS]; first | done | omega) | (simp only [List.forall_mem_cons, List.not_mem_nil, false_implies, implies_true, and_true]; (repeat' apply And.intro) <;> first | trivial | exact grV_ok (by simp) _ | exact okN_grO (fun x => by simp [go_sem, AC.pure]) | exact okN_map (fun x => by simp [go_sem, AC.pure]) | (simp [AV.ok, AV.ok1, AC.ok]; done) | (simp [AV.ok, AV.ok1, AC.ok]; omega) | (simp [AObj.okN, AC.ok]; done)) | (simp [AObj.okN]; done))
  refine SWp.of (by kernel_rfl) ?_
  simp (disch := first | omega | (simp only [go_sem]; first | done | omega)) only [go_sem]
  refine AWp.loop (H.length + 1) [8, 30, 31] [7, 32] (fun (k : Nat) => k ≤ l.length) (fun (k : Nat) => [(7, .c (grV (H.length + 1) (b4 ++ smpsB ⟨0, 0, 0⟩ (l.take k)))), (32, (.c (.int .i64 k)))]) (fun (k : Nat) => H ++ [.row 38 3 [encS (prv ⟨0, 0, 0⟩ l k)] true, grO 5 1 ((b4 ++ smpsB ⟨0, 0, 0⟩ (l.take k)).map encU)]) (fun (k : Nat) => l.length - k) (by kernel_rfl) (fun _ => rfl) (by kernel_rfl) (by first | (simp; done) | omega) (by first | (simp; done) | (simp; omega) | omega) kl ?_ (fun k hk1 _ _ => ?_)
  · refine Next.mk 0 (by omega) ?_
    have e0 : smpsB ⟨0, 0, 0⟩ (l.take 0) = [] := rfl
    (try dsimp only)
    rw [e0, prv_zero, List.append_nil]
    simp (disch := first | omega | (simp only [go_sem]; first | done | omega)) only [go_sem]
    exact WkL.refl (by simp)
  have hpv := prv_sml l hs k
  have hsl := smpsB_len (l.take k) ⟨0, 0, 0⟩ (by simp [smlS]) (fun s hs2 => hs s (List.mem_of_mem_take hs2))
  rw [List.length_take] at hsl
  by_cases hlt : k < l.length
  · have hsk := hs _ (List.getElem_mem hlt)
    have hst := smpsB_step ⟨0, 0, 0⟩ l k hlt
    have hpn := prv_succ ⟨0, 0, 0⟩ l k hlt
    generalize hQ : smpsB ⟨0, 0, 0⟩ (l.take k) = Q at *
    generalize hP : prv ⟨0, 0, 0⟩ l k = P at *
    generalize hX : l[k] = X at *
    obtain ⟨⟨a1, a2⟩, ⟨a3, a4⟩, a5, a6⟩ := hpv
    obtain ⟨⟨c1, c2⟩, ⟨c3, c4⟩, c5, c6⟩ := hsk
    have v1 := vb6 (n := X.t - P.t) ⟨by omega, by omega⟩
    have v2 := vb6 (n := X.v - P.v) ⟨by omega, by omega⟩
    have v3 := vb6 (n := X.q) ⟨by omega, by omega⟩
    simp (disch := first | omega | (simp only [go_sem]; first | done | omega)) only [go_sem, hlt, hX]
    refine varint_a _ (by omega) (by omega) ?_
    simp (disch := first | omega | (simp only [go_sem]; first | done | omega)) only [go_sem]
    refine appU (b4 ++ Q) _ (by first | ((repeat first | exact at0 (by simp) | refine atS ?_); done) | assumption) (vb_ne _) (by simp; omega) ?_
    simp (disch := first | omega | (simp only [go_sem]; first | done | omega)) only [go_sem]
    refine varint_a _ (by omega) (by omega) ?_
    simp (disch := first | omega | (simp only [go_sem]; first | done | omega)) only [go_sem]
    refine appU (b4 ++ (Q ++ vb (zig (X.t - P.t)))) _ (by first | ((repeat first | exact at0 (by simp) | refine atS ?_); done) | assumption) (vb_ne _) (by simp; omega) ?_
    simp (disch := first | omega | (simp only [go_sem]; first | done | omega)) only [go_sem]
    refine varint_a _ (by omega) (by omega) ?_
    simp (disch := first | omega | (simp only [go_sem]; first | done | omega)) only [go_sem]
    refine appU (b4 ++ (Q ++ (vb (zig (X.t - P.t)) ++ vb (zig (X.v - P.v))))) _ (by first | ((repeat first | exact at0 (by simp) | refine atS ?_); done) | assumption) (vb_ne _) (by simp; omega) ?_
    simp (disch := first | omega | (simp only [go_sem]; first | done | omega)) only [go_sem]
    refine Next.mk (k + 1) (by omega) ?_
    (try dsimp only)
    rw [hst, hpn]
    simp only [smpB, List.append_assoc]
    ((try simp (disch := first | omega | (simp only [go_sem]; first | done | omega)) only [go_sem]); (refine WkL.pickAt [_] [4] ?_ ?_ ?_ rfl ?_ ?_ ?_ ?_) <;> first | (simp only [List.map_cons, List.map_nil, av_ren_gr]; (try simp only [AV.ren, AV.ren1, AC.ren, renP]); (try simp only [pickS_add, pickS_zero]); rfl) | (simp only [List.all_cons, List.all_nil, Bool.and_true, Bool.and_eq_true]; (repeat' apply And.intro) <;> first | exact pureO_gr (pureL_map _ (fun x => by simp [go_sem, AC.pure])) | (simp [AObj.pureO, pureL, go_sem, AC.pure]; done)) | assumption | exact HOk.str (by assumption) | (simp; done) | (simp; omega) | (simp [pureO_gr, AObj.pureO, pureL, go_sem, AC.pure]; done) | (simp only [List.all_cons, List.all_nil, Bool.and_true]; exact pureO_gr (pureL_map _ (fun x => by simp [go_sem, AC.pure]))) | ((try simp only [List.map_cons, List.map_nil, av_ren_gr]); simp [AV.ren, AV.ren1, AC.ren, renP, pickS]; first | done | omega) | (simp only [List.forall_mem_cons, List.not_mem_nil, false_implies, implies_true, and_true]; (repeat' apply And.intro) <;> first | trivial | exact grV_ok (by simp) _ | exact okN_grO (fun x => by simp [go_sem, AC.pure]) | exact okN_map (fun x => by simp [go_sem, AC.pure]) | (simp [AV.ok, AV.ok1, AC.ok]; done) | (simp [AV.ok, AV.ok1, AC.ok]; omega) | (simp [AObj.okN, AC.ok]; done)) | (simp [AObj.okN]; done))
  · obtain rfl : k = l.length := by omega
    simp (disch := first | omega | (simp only [go_sem]; first | done | omega)) only [go_sem, hlt]
    rw [List.take_of_length_le (Nat.le_refl _)] at hsl
    have hbd : b4 ++ smpsB ⟨0, 0, 0⟩ l = bodyB tag l o := by rw [hhd]; rfl
    have hlb : (b4 ++ smpsB ⟨0, 0, 0⟩ l).length ≤ 20000 := by simp; omega
    generalize hB : b4 ++ smpsB ⟨0, 0, 0⟩ l = B at *
    refine csum_lend B (by first | ((repeat first | exact at0 (by simp) | refine atS ?_); done) | assumption) (fun G J hJ => checksum_a B (by omega) hJ) ?_
    have hcs := csum_lt B
    simp (disch := first | omega | (simp only [go_sem]; first | done | omega)) only [go_sem]
    refine appUr B [u8I ((csum B / 256 : Nat)), u8I ((csum B % 256 : Nat))] (by first | ((repeat first | exact at0 (by simp) | refine atS ?_); done) | assumption) ?_ (by simp) (by simp; omega) ?_
    · have g1 := u8I_toNat ((csum B / 256 : Nat)) (by omega)
      have g2 := u8I_toNat ((csum B % 256 : Nat)) (by omega)
      simp only [List.map_cons, List.map_nil, encU, g1, g2]
      simp (disch := first | omega | (simp only [go_sem]; first | done | omega)) only [go_sem]
      simp [srcO]
    simp (disch := first | omega | (simp only [go_sem]; first | done | omega)) only [go_sem]
    have hf : blockB tag l o = B ++ [u8I ((csum B / 256 : Nat)), u8I ((csum B % 256 : Nat))] := by unfold blockB; rw [← hbd]
    rw [hf] at hk
    refine Ret.frzGr 3 hH (Nat.le_refl _) rfl (pureL_U _) ?_ hk
    rw [map_grV]
    first | rfl | (simp [grV]; done) | trace_state
end Go.Proofs.YtnodfnjmhcjnfaaGreatDoor
