/- A block with one thing wrong, drawn. No condition. -/
import Derived.Test.YtmmjphncnnmdaaaHVEncTop
import Derived.Test.YtmmjphncnnmdaaaHVGC
import Derived.Test.YtmmjphncnnmdaaaHVBentD
namespace Go.Proofs.Ytmmjphncnnmdaaa
open Go Go.RowKit
set_option maxRecDepth 100000
set_option linter.all false
set_option maxHeartbeats 2000000
variable {H : Hp} {K : AV → Hp → Prop}
theorem encodeOf_o (tag : ByteArray) (l : List Smp) (o : Bool) (h1 : isKey tag) (h2 : serF l = 0) (h3 : 0 < l.length) (h4 : l.length ≤ 100) (ht : tag.size ≤ 1000) (hk : K (.tup [.c (grV H.length (blockB tag l o)), (.c (.int .i64 0))]) (H ++ [grO 5 1 ((blockB tag l o).map encU)])) : ACalls Try.prog 10 [(.c (.str tag)), .c (.lst 3 (l.map encS)), (.c (.bool o))] H K := by
  refine acalls Try.func10 rfl (by kernel_rfl) (by simp (disch := first | omega | (simp only [go_sem]; first | done | omega)) only [go_sem]) (fun hH => ?_)
  simp (disch := first | omega | (simp only [go_sem]; first | done | omega)) only [go_sem]
  refine keyR_a tag (by omega) ?_
  rw [decide_eq_true h1]
  simp (disch := first | omega | (simp only [go_sem]; first | done | omega)) only [go_sem]
  refine seriesFault_a l (by omega) ?_
  have e3 : ¬ (l.length : Int) = 0 := by omega
  have e4 : ¬ (100 : Int) < l.length := by omega
  simp (disch := first | omega | (simp only [go_sem]; first | done | omega)) only [go_sem, h2, e3, e4]
  refine encoded_o tag l o (by have := h1.1; omega) ht (by omega) (serF_sml h2) ?_
  simp (disch := first | omega | (simp only [go_sem]; first | done | omega)) only [go_sem]
  exact Ret.same (by simp) hk
def brk : List Smp := [⟨5, 3, 0⟩, ⟨9, 1, 0⟩]
def brB : List UInt8 := blockB ⟨#[116, 97]⟩ brk false
theorem brB_len : 6 ≤ brB.length ∧ brB.length ≤ 20000 := by
  unfold brB blockB bodyB headB
  have h1 := headB_len ⟨#[116, 97]⟩ 2 false (by decide) (by omega)
  have h2 := smpsB_len brk ⟨0, 0, 0⟩ (by simp [smlS]) (by simp [brk, smlS])
  unfold headB at h1
  have h3 : (⟨#[116, 97]⟩ : ByteArray).data.toList.length = 2 := rfl
  have h4 : brk.length = 2 := rfl
  rw [h4] at h2 ⊢
  have h5 : (⟨#[116, 97]⟩ : ByteArray).size = 2 := rfl
  simp only [List.length_append, List.length_cons, List.length_nil] at h1 ⊢
  omega
theorem broken_a (s : Nat) (zs : List Int) (j : Int) (hs : Str H s zs j) (hj : j ≤ 1000000000)
    (hk : ∀ (l' : List UInt8), l'.length ≤ 20000 → K (.c (.lst 1 (l'.map encU))) (H.set s (strO zs (j + 1 + 1)))) :
    ACalls Try.prog 14 [.c (.ptr (some (s, 0, 0)))] H K := by
  have hlt := hs.lt
  have hpos := hs.pos
  have hne : H.length ≠ s := by omega
  obtain ⟨b1, b2⟩ := brB_len
  have hbn : brB ≠ [] := by intro h; rw [h] at b1; simp at b1
  refine acalls Try.func14 rfl (by kernel_rfl) (by simp (disch := first | omega | (simp only [go_sem]; first | done | omega)) only [go_sem]) (fun hH => ?_)
  simp (disch := first | omega | (simp only [go_sem]; first | done | omega)) only [go_sem]
  refine ACalls.lit (i := H.length) (ty := 46) (sz := 3) (els := brk.map encS) (own := true) (by simp [brk, encS]) (by simp [pureL, encS, AC.pure]) (args' := [(.c (.str (⟨#[116, 97]⟩))), .c (.lst 3 (brk.map encS)), (.c (.bool false))]) (by simp [AV.frz1, AC.frz, brk]) ?_
  refine encodeOf_o ⟨#[116, 97]⟩ brk false (by decide) (by decide) (by decide) (by decide) (by decide) ?_
  rw [show blockB ⟨#[116, 97]⟩ brk false = brB from rfl, grV_pos _ hbn, grO_pos _ _ (by simpa using hbn)]
  generalize brB = us at *
  simp (disch := first | omega | (simp only [go_sem]; first | done | omega)) only [go_sem]
  obtain ⟨n, hn⟩ : ∃ n, us.length = n + 2 := ⟨us.length - 2, by omega⟩
  rw [show ((us.length : Int) - 2).toNat - 0 = n by omega]
  refine next_a s zs j ((n : Int) - 1) (by first | exact hs | exact hs.app _ | exact hs.set (by omega) (by omega) | exact (hs.set (by omega) (by omega)).app _) (by omega) (by omega) (fun r hr0 hr1 => ?_)
  obtain ⟨r, rfl⟩ := Int.eq_ofNat_of_zero_le hr0
  simp (disch := first | omega | (simp only [go_sem]; first | done | omega)) only [go_sem]
  repeat' (first | ((first | refine acond_d ?_ ?_ | refine acond_b ?_ ?_ | refine ag_d ?_ ?_ | refine ag_n ?_ ?_ | refine ag_bt ?_ ?_ | refine ag_bf ?_ ?_ | refine agt_d ?_ ?_ | refine agt_n ?_ ?_ | refine agt_bt ?_ ?_ | refine agt_bf ?_ ?_) <;> intro c <;> try simp (disch := first | omega | (simp only [go_sem]; first | done | omega)) only [go_sem, c]) | ((first | refine w_draw (by kernel_rfl) (by decide +kernel) ?_ | refine pick_lit s zs (j + 1) [_, _, 0, 1, 2, 5, 127, 65] (by first | exact at0 (by simp) | exact at1 (by simp) | exact at2 (by simp) | exact at3 (by simp) | exact at4 (by simp) | exact at5 (by simp) | exact atG 6 (by simp) rfl | exact atG 7 (by simp) rfl | exact atG 8 (by simp) rfl | exact atG 9 (by simp) rfl | exact atG 10 (by simp) rfl | assumption) rfl rfl (by first | exact hs | exact hs.app _ | exact hs.set (by omega) (by omega) | exact (hs.set (by omega) (by omega)).app _) (by omega) (by simp) (by simp) (fun v _ => ?_) | refine w_tree (.one 0 (.one 1 (.one 2 (.one 3 (.one 4 (.one 5 (.one 6 (.one 7 (.one 8 (.one 9 (.one 10 (.one 11 (.one 12 (.one 13 (.one 14 (.one 15 (.one 16 (.one 17 (.one 18 (.one 19 .done)))))))))))))))))))) (by kernel_rfl) (by decide +kernel) ?_) <;> try simp (disch := first | omega | (simp only [go_sem]; first | done | omega)) only [go_sem]) | (refine And.intro ?_ ?_ <;> try simp (disch := first | omega | (simp only [go_sem]; first | done | omega)) only [go_sem]))
  obtain ⟨x, hx⟩ := wrapU v
  rw [hx]
  have e : (us.map encU).set ((r : Int) + 1).toNat [.int .u8 (x.toNat : Int)] = (us.set ((r : Int) + 1).toNat x).map encU := by rw [List.map_set]; rfl
  rw [e]
  have hu : (us.set ((r : Int) + 1).toNat x).length = n + 2 := by simp [hn]
  generalize us.set ((r : Int) + 1).toNat x = u2 at *
  have hft : (u2.map encU).take n = (u2.take n).map encU := by rw [List.map_take]
  have hfr : [AV.c (.sl (some (H.length + 1, 0)) n)].map (AV.frz1 (H.length + 1) 1 (u2.map encU)) = [.c (.lst 1 ((u2.take n).map encU))] := by
    simp only [List.map_cons, List.map_nil, AV.frz1, AC.frz]
    rw [if_pos (by refine ⟨trivial, ?_⟩; rw [List.length_map, hu]; omega), List.drop_zero, hft]
  refine ACalls.lend (i := H.length + 1) (ty := 5) (sz := 1) (els := u2.map encU) (own := true) (.c (.int .i64 ((csum (u2.take n) : Nat)))) (by rw [List.getElem?_append_right (by simp)]; simp) (pureL_U _) rfl (by rw [hfr]; simp [AV.ok1, AC.ok]) (by rw [hfr]; exact checksumR_a _ (by simp; omega) rfl) ?_
  have hc := csum_lt (u2.take n)
  generalize csum (u2.take n) = c at *
  simp (disch := first | omega | (simp only [go_sem]; first | done | omega)) only [go_sem]
  refine app_sl ?_
  simp (disch := first | omega | (simp only [go_sem]; first | done | omega)) only [go_sem]
  have g1 := u8I_toNat ((c / 256 : Nat)) (by omega)
  have g2 := u8I_toNat ((c % 256 : Nat)) (by omega)
  have hrow : (u2.map encU).take n ++ [[AC.int .u8 ((c : Int) / 256)], [AC.int .u8 ((c : Int) % 256)]] = (u2.take n ++ [u8I ((c / 256 : Nat)), u8I ((c % 256 : Nat))]).map encU := by
    rw [List.map_append, hft]
    simp only [List.map_cons, List.map_nil, encU, g1, g2]
    rfl
  rw [hrow]
  have hll : (u2.take n ++ [u8I ((c / 256 : Nat)), u8I ((c % 256 : Nat))]).length = n + 2 := by simp; omega
  generalize u2.take n ++ [u8I ((c / 256 : Nat)), u8I ((c % 256 : Nat))] = u3 at *
  exact Ret.frzRow 4 (HOk.str hH) (by simp) rfl (pureL_U _) (by simp) (by rw [List.length_map, hll]) (hk u3 (by omega))
end Go.Proofs.Ytmmjphncnnmdaaa
