/- The reference's texts of samples. -/
import Derived.Test.YtflklkijfkmeiaaGreatDoorHVTxtJ
import Derived.Test.YtflklkijfkmeiaaGreatDoorHVTxtC
namespace Go.Proofs.YtflklkijfkmeiaaGreatDoor
open Go Go.RowKit
set_option maxRecDepth 100000
set_option linter.all false
set_option maxHeartbeats 2000000
variable {H : Hp} {K : AV → Hp → Prop}
@[go_sem] def encSx (x : ByteArray) : List AC := [.str x]
theorem appSx {i q ty : Nat} {own : Bool} {J : AV → Hp → Prop} (l : List ByteArray) (x : ByteArray) (l2 : List ByteArray) (e : l2 = l ++ [x]) (hi : H[i]? = some (grO 9 1 (l.map encSx))) (hj : H[q]? = some (.row ty 1 [[.str x]] own)) (hb : l.length ≤ 1000000000)
    (h : J (.c (grV H.length l2)) (H.set i .dead ++ [grO 9 1 (l2.map encSx)])) : aBuiltin Tryz.prog .append #[70, 70] [.c (grV i l), .c (.sl (some (q, 0)) 1)] H J := by
  subst e
  exact app_grR (enc := encSx) (e := 9) (sz := 1) (bs := 16) (z := [.str .empty]) l [x] (by kernel_rfl) (by kernel_rfl) (by kernel_rfl) (by kernel_rfl) hi (by rw [hj]; rfl) (by simp) rfl (by decide) (by simp; omega) (by simp; omega) h
def numL (ns : List Int) : List ByteArray := ns.map fun n => tB (Lib.itoa n)
theorem numL_next {ns : List Int} {k : Nat} (h : k < ns.length) : numL (ns.take (k + 1)) = numL (ns.take k) ++ [tB (Lib.itoa ns[k])] := by
  unfold numL
  rw [List.take_succ_eq_append_getElem h, List.map_append]
  rfl
theorem itoa_pos (n : Int) : 0 < (Lib.itoa n).length := by
  have h := (dec_dig n.natAbs n.natAbs (Nat.le_refl _)).2.1
  have h2 : 0 < (Lib.decDigits n.natAbs).length := by
    rcases Nat.eq_zero_or_pos (Lib.decDigits n.natAbs).length with h3 | h3
    · exact absurd (List.length_eq_zero_iff.1 h3) h
    · exact h3
  unfold Lib.itoa
  split
  · simp
  · first | exact h2 | (rw [show n.toNat = n.natAbs by omega]; exact h2)
theorem numbersR_a (n0 : Int) (ns : List Int) (h1 : 0 < ns.length ∧ ns.length ≤ 900) (hb : ∀ n ∈ n0 :: ns, -1000000000000000 < n ∧ n < 1000000000000000) (hk : K (.c (.str (tB (joinL [32] ((n0 :: ns).map Lib.itoa))))) H) : ACalls Tryz.prog 96 [.c (.lst 1 ((n0 :: ns).map encI))] H K := by
  obtain ⟨ms, hms⟩ : ∃ ms, ms = n0 :: ns := ⟨_, rfl⟩
  have hml : ms.length = ns.length + 1 := by rw [hms]; rfl
  rw [← hms] at hb ⊢
  refine acalls Tryz.func96 rfl (by kernel_rfl) (by simp (disch := first | omega | (simp only [go_sem]; first | done | omega)) only [go_sem]) (fun hH => ?_)
  simp (disch := first | omega | (simp only [go_sem]; first | done | omega)) only [go_sem]
  refine AWp.loop (H.length) [6, 7] [8, 3] (fun (k : Nat) => k ≤ ms.length) (fun (k : Nat) => [(8, (.c (.int .i64 k))), (3, .c (grV H.length (numL (ms.take k))))]) (fun (k : Nat) => H ++ [grO 9 1 ((numL (ms.take k)).map encSx)]) (fun (k : Nat) => ms.length - k) (by kernel_rfl) (fun _ => rfl) (by kernel_rfl) (by first | (simp; done) | omega) (by first | (simp; done) | (simp; omega) | omega) kl ?_ (fun k q _ _ => ?_)
  · refine Next.mk 0 (Nat.zero_le _) ?_
    exact WkL.pad (by omega)
  by_cases hlt : k < ms.length
  · have hnx := numL_next hlt
    have hbk := hb ms[k] (List.getElem_mem hlt)
    have hnl : (numL (ms.take k)).length ≤ 1000 := by unfold numL; rw [List.length_map, List.length_take]; omega
    generalize numL (ms.take k) = L at *
    simp (disch := first | omega | (simp only [go_sem]; first | done | omega)) only [go_sem, hlt]
    refine itoa_a ms[k] (by omega) (by omega) ?_
    rw [show (⟨(Lib.itoa ms[k]).toArray⟩ : ByteArray) = tB (Lib.itoa ms[k]) from rfl]
    simp (disch := first | omega | (simp only [go_sem]; first | done | omega)) only [go_sem]
    refine appSx L (tB (Lib.itoa ms[k])) _ hnx (by first | ((repeat first | exact at0 (by simp) | refine atS ?_); done) | assumption) (by first | ((repeat first | exact at0 (by simp) | refine atS ?_); done) | assumption) (by omega) ?_
    simp (disch := first | omega | (simp only [go_sem]; first | done | omega)) only [go_sem]
    refine Next.mk (k + 1) ⟨by omega, by omega⟩ ?_
    exact ow
  · have hkl : k = ms.length := by omega
    subst hkl
    rw [List.take_length]
    simp (disch := first | omega | (simp only [go_sem]; first | done | omega)) only [go_sem]
    refine ACalls.litGr (i := H.length) (els := (numL ms).map encSx) (by first | ((repeat first | exact at0 (by simp) | refine atS ?_); done) | assumption) (by simp) (pureL_map _ (fun x => by simp [go_sem, AC.pure])) rfl ?_
    have he : (numL ms).map encSx = (Lib.itoa n0 :: ns.map Lib.itoa).map encTx := by
      rw [hms]
      unfold numL
      simp only [List.map_cons, List.map_map]
      rfl
    rw [he]
    refine join_a (Lib.itoa n0) (ns.map Lib.itoa) (by rw [List.length_map]; omega) ⟨itoa_pos _, by have := itoa_len (hb n0 (by rw [hms]; simp)); omega⟩ (fun y hy => ?_) ?_
    · obtain ⟨n, hn, rfl⟩ := List.mem_map.1 hy
      exact ⟨itoa_pos _, by have := itoa_len (hb n (by rw [hms]; exact List.mem_cons_of_mem _ hn)); omega⟩
    · simp (disch := first | omega | (simp only [go_sem]; first | done | omega)) only [go_sem]
      exact Ret.drop hH (Nat.le_refl _) trivial hk
theorem words3_a (hk : K (.c (.lst 1 ([wGood, wUnc, wBad].map encTx))) H) : ACalls Tryz.prog 165 [] H K := by
  refine acalls Tryz.func165 rfl (by kernel_rfl) (by simp (disch := first | omega | (simp only [go_sem]; first | done | omega)) only [go_sem]) (fun hH => ?_)
  simp (disch := first | omega | (simp only [go_sem]; first | done | omega)) only [go_sem]
  exact Ret.frzRow 0 hH (Nat.le_refl _) rfl (pureL_Tx [wGood, wUnc, wBad]) (by simp) rfl hk
theorem numbers2_lit (a b : Int) (ha : -1000000000000000 < a ∧ a < 1000000000000000) (hb : -1000000000000000 < b ∧ b < 1000000000000000) {i ty n : Nat} {els : List (List AC)} {own : Bool} (hi : H[i]? = some (.row ty 1 els own)) (he : els = [[.int .i64 a], [.int .i64 b]]) (hn : n = 2) (hk : K (.c (.str (tB (Lib.itoa a ++ 32 :: Lib.itoa b)))) (H.set i .dead)) : ACalls Tryz.prog 96 [.c (.sl (some (i, 0)) n)] H K := by
  subst he hn
  refine ACalls.lit hi (by simp [pureL, AC.pure]) (args' := [.c (.lst 1 ([a, b].map encI))]) (by simp [AV.frz1, AC.frz, encI]) (numbersR_a a [b] (by simp) (by simp; omega) ?_)
  rw [show joinL [32] ([a, b].map Lib.itoa) = Lib.itoa a ++ 32 :: Lib.itoa b by simp [joinL]]
  exact hk
theorem sampleText_a (x : Smp) (ht : -1000000000000000 < x.t ∧ x.t < 1000000000000000) (hv : -1000000000000000 < x.v ∧ x.v < 1000000000000000) (hq : 0 ≤ x.q ∧ x.q ≤ 2) (hk : K (.c (.str (tB (lineT x)))) H) : ACalls Tryz.prog 97 [.agg (encS x)] H K := by
  have l1 := itoa_len ht
  have l2 := itoa_len hv
  obtain ⟨t, v, q⟩ := x
  dsimp only at *
  have hq' : q = 0 ∨ q = 1 ∨ q = 2 := by omega
  rcases hq' with rfl | rfl | rfl
  all_goals
    refine acalls Tryz.func97 rfl (by kernel_rfl) (by simp (disch := first | omega | (simp only [go_sem]; first | done | omega)) only [go_sem]) (fun hH => ?_)
    simp (disch := first | omega | (simp only [go_sem]; first | done | omega)) only [go_sem]
    refine w_tree (.one 0 (.one 1 (.one 2 (.one 3 (.one 8 (.two 4 (.two 5 (.one 6 (.two 7 (.one 9 (.one 10 (.one 11 (.one 12 (.one 13 .done))))) 9 (.one 7 (.one 10 (.one 11 (.one 12 (.one 13 .done))))))) 9 (.one 5 (.one 6 (.one 7 (.one 10 (.one 11 (.one 12 (.one 13 .done)))))))) 9 (.one 4 (.one 5 (.one 6 (.one 7 (.one 10 (.one 11 (.one 12 (.one 13 .done)))))))))))))) (by kernel_rfl) (by decide +kernel) ?_
    simp (disch := first | omega | (simp only [go_sem]; first | done | omega)) only [go_sem]
    iterate 3
      all_goals (repeat' apply And.intro)
      all_goals try (first | refine numbers2_lit t v ht hv (by first | ((repeat first | exact at0 (by simp) | refine atS ?_); done) | assumption) rfl rfl ?_ | refine words3_a ?_)
      all_goals try simp (disch := first | omega | (simp only [go_sem]; first | done | omega)) only [go_sem, app32, app_tB, tB_size, List.length_append, List.length_cons, one32]
    all_goals first
      | exact Ret.drop hH (Nat.le_refl _) trivial hk
      | (have a1 : wGood.length = 4 := rfl
         have a2 : wUnc.length = 9 := rfl
         have a3 : wBad.length = 3 := rfl
         omega)
end Go.Proofs.YtflklkijfkmeiaaGreatDoor
