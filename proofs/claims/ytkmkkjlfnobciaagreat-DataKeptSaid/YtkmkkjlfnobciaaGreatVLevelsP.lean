/- Which levels keep data: the program. Condition: few holds. -/
import Derived.Test.YtkmkkjlfnobciaaGreatVLevelsOf
namespace Go.Proofs.YtkmkkjlfnobciaaGreat
open Go Go.RowKit
set_option maxRecDepth 100000
set_option linter.all false
set_option maxHeartbeats 1000000
variable {H : Hp} {K : AV → Hp → Prop}
theorem firstE_two' {a b : Int} (h : firstE [a, b] = 0) : a = 0 ∧ b = 0 := firstE_two h
theorem firstE_three {a b c : Int} (h : firstE [a, b, c] = 0) : a = 0 ∧ b = 0 ∧ c = 0 := by
  simp only [firstE] at h
  split at h
  · split at h
    · split at h <;> omega
    · omega
  · omega
theorem momE_ok {m a : Int} (h : momE m a = 0) : 0 ≤ m ∧ m ≤ 345686399999 ∧ 0 ≤ a ∧ a ≤ 345686399999 ∧ m ≤ a := by
  unfold momE at h
  split at h
  · assumption
  · cases h
def levelsE (l : List Level) (h : List Hold) (tag : ByteArray) (m t : Int) : Int := firstE [firstE [lvF l, hdF h, tagE tag], momE m t]
def levelsRes (l : List Level) (h : List Hold) (tag : ByteArray) (m t : Int) : List Int × Int := if levelsE l h tag m t ≠ 0 then ([], levelsE l h tag m t) else (idxG (fun x => keepB x (ofF h tag) m t) 0 l, 0)
theorem first2_lit (a b : Int) {i ty n : Nat} {els : List (List AC)} {own : Bool} (hi : H[i]? = some (.row ty 1 els own)) (he : els = [[.int .i64 a], [.int .i64 b]]) (hn : n = 2) (hk : K (.c (.int .i64 (firstE [a, b]))) (H.set i .dead)) : ACalls Tryz.prog 51 [.c (.sl (some (i, 0)) n)] H K := by
  subst he hn
  exact ACalls.lit hi (by simp [pureL, AC.pure]) (args' := [.c (.lst 1 ([a, b].map encI))]) (by simp [AV.frz1, AC.frz, encI]) (first_a [a, b] (by simp) hk)
theorem levelsTop_a (l : List Level) (h : List Hold) (tag : ByteArray) (m t : Int) (hl : l.length ≤ 1000) (hlen : h.length ≤ 12) (hs : ∀ x ∈ h, x.short) (hn : ∀ y ∈ h, y.near) (ht : tag.size ≤ 1000)
    (hk : K (.tup [.c (.lst 1 ((levelsRes l h tag m t).1.map encI)), (.c (.int .i64 ((levelsRes l h tag m t).2)))]) H) : ACalls Tryz.prog 12 [.c (.lst 2 (l.map encL)), .c (.lst 6 (h.map encH)), (.c (.str tag)), (.c (.int .i64 m)), (.c (.int .i64 t))] H K := by
  refine acalls Tryz.func12 rfl (by kernel_rfl) (by simp (disch := first | omega | (simp only [go_sem]; first | done | omega)) only [go_sem]) (fun hH => ?_)
  simp (disch := first | omega | (simp only [go_sem]; first | done | omega)) only [go_sem]
  refine fault_a l h tag hl (by omega) hs ht ?_
  simp (disch := first | omega | (simp only [go_sem]; first | done | omega)) only [go_sem]
  refine momentFault_a m t ?_
  simp (disch := first | omega | (simp only [go_sem]; first | done | omega)) only [go_sem]
  refine first2_lit (firstE [lvF l, hdF h, tagE tag]) (momE m t) (by first | exact at0 (by simp) | exact at1 (by simp) | exact at2 (by simp) | exact at3 (by simp) | exact at4 (by simp) | exact at5 (by simp) | exact atG 6 (by simp) rfl | exact atG 7 (by simp) rfl | exact atG 8 (by simp) rfl | exact atG 9 (by simp) rfl | exact atG 10 (by simp) rfl | assumption) rfl rfl ?_
  simp (disch := first | omega | (simp only [go_sem]; first | done | omega)) only [go_sem]
  refine acond_d (fun c => ?_) (fun c => ?_)
  rotate_left
  · simp (disch := first | omega | (simp only [go_sem]; first | done | omega)) only [go_sem]
    rw [show levelsRes l h tag m t = ([], levelsE l h tag m t) by unfold levelsRes; rw [if_pos (by unfold levelsE; exact c)]] at hk
    exact Ret.nilT hH (Nat.le_refl _) rfl hk
  rw [show levelsRes l h tag m t = (idxG (fun x => keepB x (ofF h tag) m t) 0 l, 0) by unfold levelsRes; rw [if_neg (by unfold levelsE; rw [c]; simp)]] at hk
  obtain ⟨c1, c2⟩ := firstE_two c
  obtain ⟨c3, c4, c5⟩ := firstE_three c1
  obtain ⟨hx, _, _⟩ := lvF_ok c3
  have hmm := momE_ok c2
  have hol := ofF_len h tag
  have hon : ∀ y ∈ ofF h tag, y.near := fun y hy => hn y (List.mem_filter.1 hy).1
  simp (disch := first | omega | (simp only [go_sem]; first | done | omega)) only [go_sem]
  refine AWp.loop (H.length + 1) [1, 2, 3, 4, 28, 29] [30, 13] (fun (k : Nat) => k ≤ l.length) (fun (k : Nat) => [(30, (.c (.int .i64 k))), (13, .c (grV (H.length + 1) (idxG (fun x => keepB x (ofF h tag) m t) 0 (l.take k))))]) (fun (k : Nat) => H ++ [.dead, grO 3 1 ((idxG (fun x => keepB x (ofF h tag) m t) 0 (l.take k)).map encI)]) (fun (k : Nat) => l.length - k) (by kernel_rfl) (fun _ => rfl) (by kernel_rfl) (by simp) (by first | (simp; done) | (simp; omega)) (by (try simp only [List.forall_mem_cons, List.not_mem_nil, false_implies, implies_true, and_true]); (try simp (disch := first | omega | (simp only [go_sem]; first | done | omega)) only [go_sem]); first | trivial | (simp [AV.ok, AV.ok1, AC.ok]; done) | (simp [AV.ok, AV.ok1, AC.ok]; omega) | (simp [AV.ok, AV.ok1, AC.ok]; assumption) | ((repeat' apply And.intro) <;> first | trivial | (simp [AV.ok, AV.ok1, AC.ok]; done) | (simp [AV.ok, AV.ok1, AC.ok]; omega) | (simp [AV.ok, AV.ok1, AC.ok]; assumption) | (refine grV_ok ?_ _; first | (simp; done) | (simp; omega) | omega))) ?_ (fun k hkb _ _ => ?_)
  · exact Next.mk 0 (by omega) (by simp (disch := first | omega | (simp only [go_sem]; first | done | omega)) only [go_sem]; exact WkL.padP [_] (by simp))
  have hil := idxG_len (fun x => keepB x (ofF h tag) m t) (l.take k) 0
  have htk : (l.take k).length ≤ l.length := by rw [List.length_take]; omega
  by_cases hlt : k < l.length
  · have hnx := idxG_next (fun x => keepB x (ofF h tag) m t) hlt
    have hxk := hx _ (List.getElem_mem hlt)
    simp (disch := first | omega | (simp only [go_sem]; first | done | omega)) only [go_sem]
    repeat' (first | ((first | refine acond_d ?_ ?_ | refine acond_b ?_ ?_ | refine ag_d ?_ ?_ | refine ag_n ?_ ?_ | refine ag_bt ?_ ?_ | refine ag_bf ?_ ?_ | refine agt_d ?_ ?_ | refine agt_n ?_ ?_ | refine agt_bt ?_ ?_ | refine agt_bf ?_ ?_) <;> intro c <;> try simp (disch := first | omega | (simp only [go_sem]; first | done | omega)) only [go_sem, c]) | ((first | refine w_draw (by kernel_rfl) (by decide +kernel) ?_ | refine of_a h tag (by omega) ?_ | refine keeps_a l[k] (ofF h tag) m t hxk (by omega) hon (by omega) (by omega) ?_ | refine w_tree (.one 1 (.one 2 (.one 4 (.one 5 (.two 0 (.one 3 (.one 6 .done)) 3 (.one 0 (.one 6 .done))))))) (by kernel_rfl) (by decide +kernel) ?_) <;> try simp (disch := first | omega | (simp only [go_sem]; first | done | omega)) only [go_sem]) | (refine And.intro ?_ ?_ <;> try simp (disch := first | omega | (simp only [go_sem]; first | done | omega)) only [go_sem]))
    all_goals first
      | (rw [if_pos (show keepB l[k] (ofF h tag) m t = true from decide_eq_true c)] at hnx
         (refine app_gr (enc := encI) (e := 3) (sz := 1) (bs := 8) (z := [.int .i64 0]) (_) ((k : Int)) (by kernel_rfl) (by kernel_rfl) (by kernel_rfl) (by kernel_rfl) (by first | exact at0 (by simp) | exact at1 (by simp) | exact at2 (by simp) | exact at3 (by simp) | exact at4 (by simp) | exact at5 (by simp) | exact atG 6 (by simp) rfl | exact atG 7 (by simp) rfl | exact atG 8 (by simp) rfl | exact atG 9 (by simp) rfl | exact atG 10 (by simp) rfl | assumption) (by first | (simp (disch := first | omega | (simp only [go_sem]; first | done | omega)) only [go_sem]; done) | (simp (disch := first | omega | (simp only [go_sem]; first | done | omega)) only [go_sem]; rfl) | (simp (disch := first | omega | (simp only [go_sem]; first | done | omega)) only [go_sem]; simp [go_sem]; done) | (simp (disch := first | omega | (simp only [go_sem]; first | done | omega)) only [go_sem]; simp [*]; done)) rfl (by decide) (by omega) (by omega) (by rfl) ?_)
         simp (disch := first | omega | (simp only [go_sem]; first | done | omega)) only [go_sem]
         exact Next.mk (k + 1) ⟨by omega, by omega⟩ (by rw [hnx]; ((try simp (disch := first | omega | (simp only [go_sem]; first | done | omega)) only [go_sem]); (first | refine WkL.pickAt [_] [0] ?_ ?_ ?_ rfl ?_ ?_ ?_ ?_ | refine WkL.pickAt [_] [1] ?_ ?_ ?_ rfl ?_ ?_ ?_ ?_ | refine WkL.pickAt [_] [2] ?_ ?_ ?_ rfl ?_ ?_ ?_ ?_ | refine WkL.pickAt [_] [3] ?_ ?_ ?_ rfl ?_ ?_ ?_ ?_ | refine WkL.pickAt [_] [4] ?_ ?_ ?_ rfl ?_ ?_ ?_ ?_ | refine WkL.pickAt [_] [5] ?_ ?_ ?_ rfl ?_ ?_ ?_ ?_ | refine WkL.pickAt [_] [6] ?_ ?_ ?_ rfl ?_ ?_ ?_ ?_ | refine WkL.pickAt [_] [7] ?_ ?_ ?_ rfl ?_ ?_ ?_ ?_ | refine WkL.pickAt [_] [8] ?_ ?_ ?_ rfl ?_ ?_ ?_ ?_ | refine WkL.pickAt [_] [9] ?_ ?_ ?_ rfl ?_ ?_ ?_ ?_ | refine WkL.pickAt [_] [10] ?_ ?_ ?_ rfl ?_ ?_ ?_ ?_ | refine WkL.pickAt [_] [11] ?_ ?_ ?_ rfl ?_ ?_ ?_ ?_ | refine WkL.pickAt [_] [12] ?_ ?_ ?_ rfl ?_ ?_ ?_ ?_ | refine WkL.pickAt [_] [13] ?_ ?_ ?_ rfl ?_ ?_ ?_ ?_ | refine WkL.pickAt [_] [14] ?_ ?_ ?_ rfl ?_ ?_ ?_ ?_ | refine WkL.pickAt [_] [15] ?_ ?_ ?_ rfl ?_ ?_ ?_ ?_ | refine WkL.pickAt [_] [16] ?_ ?_ ?_ rfl ?_ ?_ ?_ ?_ | refine WkL.pickAt [_] [17] ?_ ?_ ?_ rfl ?_ ?_ ?_ ?_) <;> first | assumption | exact HOk.str (by assumption) | (simp; done) | (simp; omega) | (simp [pureO_gr, AObj.pureO, pureL, go_sem, AC.pure]; done) | (simp only [List.all_cons, List.all_nil, Bool.and_true]; exact pureO_gr (pureL_map _ (fun x => by simp [go_sem, AC.pure]))) | ((try simp only [List.map_cons, List.map_nil, av_ren_gr]); simp [AV.ren, AV.ren1, AC.ren, pickS]; first | done | omega) | (simp only [List.forall_mem_cons, List.not_mem_nil, false_implies, implies_true, and_true]; (repeat' apply And.intro) <;> first | trivial | exact grV_ok (by simp) _ | exact okN_grO (fun x => by simp [go_sem, AC.pure]) | exact okN_map (fun x => by simp [go_sem, AC.pure]) | (simp [AV.ok, AV.ok1, AC.ok]; done) | (simp [AV.ok, AV.ok1, AC.ok]; omega) | (simp [AObj.okN, AC.ok]; done)) | (simp [AObj.okN]; done))))
      | (rw [show keepB l[k] (ofF h tag) m t = false from decide_eq_false c, if_neg (by simp), List.append_nil] at hnx
         exact Next.mk (k + 1) ⟨by omega, by omega⟩ (by rw [hnx]; ((try simp (disch := first | omega | (simp only [go_sem]; first | done | omega)) only [go_sem]); (first | refine WkL.pickAt [_] [0] ?_ ?_ ?_ rfl ?_ ?_ ?_ ?_ | refine WkL.pickAt [_] [1] ?_ ?_ ?_ rfl ?_ ?_ ?_ ?_ | refine WkL.pickAt [_] [2] ?_ ?_ ?_ rfl ?_ ?_ ?_ ?_ | refine WkL.pickAt [_] [3] ?_ ?_ ?_ rfl ?_ ?_ ?_ ?_ | refine WkL.pickAt [_] [4] ?_ ?_ ?_ rfl ?_ ?_ ?_ ?_ | refine WkL.pickAt [_] [5] ?_ ?_ ?_ rfl ?_ ?_ ?_ ?_ | refine WkL.pickAt [_] [6] ?_ ?_ ?_ rfl ?_ ?_ ?_ ?_ | refine WkL.pickAt [_] [7] ?_ ?_ ?_ rfl ?_ ?_ ?_ ?_ | refine WkL.pickAt [_] [8] ?_ ?_ ?_ rfl ?_ ?_ ?_ ?_ | refine WkL.pickAt [_] [9] ?_ ?_ ?_ rfl ?_ ?_ ?_ ?_ | refine WkL.pickAt [_] [10] ?_ ?_ ?_ rfl ?_ ?_ ?_ ?_ | refine WkL.pickAt [_] [11] ?_ ?_ ?_ rfl ?_ ?_ ?_ ?_ | refine WkL.pickAt [_] [12] ?_ ?_ ?_ rfl ?_ ?_ ?_ ?_ | refine WkL.pickAt [_] [13] ?_ ?_ ?_ rfl ?_ ?_ ?_ ?_ | refine WkL.pickAt [_] [14] ?_ ?_ ?_ rfl ?_ ?_ ?_ ?_ | refine WkL.pickAt [_] [15] ?_ ?_ ?_ rfl ?_ ?_ ?_ ?_ | refine WkL.pickAt [_] [16] ?_ ?_ ?_ rfl ?_ ?_ ?_ ?_ | refine WkL.pickAt [_] [17] ?_ ?_ ?_ rfl ?_ ?_ ?_ ?_) <;> first | assumption | exact HOk.str (by assumption) | (simp; done) | (simp; omega) | (simp [pureO_gr, AObj.pureO, pureL, go_sem, AC.pure]; done) | (simp only [List.all_cons, List.all_nil, Bool.and_true]; exact pureO_gr (pureL_map _ (fun x => by simp [go_sem, AC.pure]))) | ((try simp only [List.map_cons, List.map_nil, av_ren_gr]); simp [AV.ren, AV.ren1, AC.ren, pickS]; first | done | omega) | (simp only [List.forall_mem_cons, List.not_mem_nil, false_implies, implies_true, and_true]; (repeat' apply And.intro) <;> first | trivial | exact grV_ok (by simp) _ | exact okN_grO (fun x => by simp [go_sem, AC.pure]) | exact okN_map (fun x => by simp [go_sem, AC.pure]) | (simp [AV.ok, AV.ok1, AC.ok]; done) | (simp [AV.ok, AV.ok1, AC.ok]; omega) | (simp [AObj.okN, AC.ok]; done)) | (simp [AObj.okN]; done))))
  · rw [List.take_of_length_le (by omega)]
    simp (disch := first | omega | (simp only [go_sem]; first | done | omega)) only [go_sem]
    exact Ret.frzGrT 1 hH (Nat.le_refl _) rfl (pureL_map _ (fun x => by simp [go_sem, AC.pure])) rfl (map_grV _ _ _).symm hk
end Go.Proofs.YtkmkkjlfnobciaaGreat
