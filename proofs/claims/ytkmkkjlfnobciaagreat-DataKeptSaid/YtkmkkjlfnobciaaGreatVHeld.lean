/- What holds hold. Condition: keys are short. -/
import Derived.Test.YtkmkkjlfnobciaaGreatVHold
import Derived.Test.YtkmkkjlfnobciaaGreatVErrs
import Derived.Test.YtkmkkjlfnobciaaGreatVLevels
namespace Go.Proofs.YtkmkkjlfnobciaaGreat
open Go Go.RowKit
set_option maxRecDepth 100000
set_option linter.all false
set_option maxHeartbeats 1000000
variable {H : Hp} {K : AV → Hp → Prop}
def tagE (t : ByteArray) : Int := if isKey t then 0 else 5
def momE (m a : Int) : Int := if 0 ≤ m ∧ m ≤ 345686399999 ∧ 0 ≤ a ∧ a ≤ 345686399999 ∧ m ≤ a then 0 else 1
theorem tagFault_a (t : ByteArray) (hs : t.size ≤ 1000) (hk : K (.c (.int .i64 (tagE t))) H) : ACalls Tryz.prog 52 [(.c (.str t))] H K := by
  refine acalls Tryz.func52 rfl (by kernel_rfl) (by simp (disch := first | omega | (simp only [go_sem]; first | done | omega)) only [go_sem]) (fun hH => ?_)
  simp (disch := first | omega | (simp only [go_sem]; first | done | omega)) only [go_sem]
  repeat' (first | ((first | refine acond_d ?_ ?_ | refine acond_b ?_ ?_ | refine ag_d ?_ ?_ | refine ag_n ?_ ?_ | refine ag_bt ?_ ?_ | refine ag_bf ?_ ?_) <;> intro c <;> try simp (disch := first | omega | (simp only [go_sem]; first | done | omega)) only [go_sem, c]) | ((first | refine w_draw (by kernel_rfl) (by decide +kernel) ?_ | refine key_a t (by omega) ?_) <;> try simp (disch := first | omega | (simp only [go_sem]; first | done | omega)) only [go_sem]))
  all_goals (first | refine Ret.sameE (Nat.le_refl _) (by assumption) ?_ | refine Ret.dropE (by assumption) (Nat.le_refl _) (by assumption) (by simp [AV.ok, AV.ok1, AC.ok]) ?_) <;> simp [tagE, *]
theorem nameFault_a (t : ByteArray) (hs : t.size ≤ 1000) (hk : K (.c (.int .i64 (tagE t))) H) : ACalls Tryz.prog 16 [(.c (.str t))] H K := by
  refine acalls Tryz.func16 rfl (by kernel_rfl) (by simp (disch := first | omega | (simp only [go_sem]; first | done | omega)) only [go_sem]) (fun hH => ?_)
  simp (disch := first | omega | (simp only [go_sem]; first | done | omega)) only [go_sem]
  repeat' (first | ((first | refine acond_d ?_ ?_ | refine acond_b ?_ ?_ | refine ag_d ?_ ?_ | refine ag_n ?_ ?_ | refine ag_bt ?_ ?_ | refine ag_bf ?_ ?_) <;> intro c <;> try simp (disch := first | omega | (simp only [go_sem]; first | done | omega)) only [go_sem, c]) | ((first | refine w_draw (by kernel_rfl) (by decide +kernel) ?_ | refine keyR_a t (by omega) ?_ | refine when_a _ _ _ _ ?_) <;> try simp (disch := first | omega | (simp only [go_sem]; first | done | omega)) only [go_sem]))
  all_goals (first | refine Ret.sameE (Nat.le_refl _) (by assumption) ?_ | refine Ret.dropE (by assumption) (Nat.le_refl _) (by assumption) (by simp [AV.ok, AV.ok1, AC.ok]) ?_) <;> grind [tagE]
theorem momentFault_a (m a : Int) (hk : K (.c (.int .i64 (momE m a))) H) : ACalls Tryz.prog 53 [(.c (.int .i64 m)), (.c (.int .i64 a))] H K := by
  refine acalls Tryz.func53 rfl (by kernel_rfl) (by simp (disch := first | omega | (simp only [go_sem]; first | done | omega)) only [go_sem]) (fun hH => ?_)
  simp (disch := first | omega | (simp only [go_sem]; first | done | omega)) only [go_sem]
  repeat' (first | ((first | refine acond_d ?_ ?_ | refine acond_b ?_ ?_ | refine ag_d ?_ ?_ | refine ag_n ?_ ?_ | refine ag_bt ?_ ?_ | refine ag_bf ?_ ?_) <;> intro c <;> try simp (disch := first | omega | (simp only [go_sem]; first | done | omega)) only [go_sem, c]) | ((first | refine w_draw (by kernel_rfl) (by decide +kernel) ?_ | refine moment_a _ _ _ ?_) <;> try simp (disch := first | omega | (simp only [go_sem]; first | done | omega)) only [go_sem]))
  all_goals (first | refine Ret.sameE (Nat.le_refl _) (by assumption) ?_ | refine Ret.dropE (by assumption) (Nat.le_refl _) (by assumption) (by simp [AV.ok, AV.ok1, AC.ok]) ?_) <;> grind [momE]
theorem timesFault_a (m a : Int) (hk : K (.c (.int .i64 (momE m a))) H) : ACalls Tryz.prog 17 [(.c (.int .i64 m)), (.c (.int .i64 a))] H K := by
  refine acalls Tryz.func17 rfl (by kernel_rfl) (by simp (disch := first | omega | (simp only [go_sem]; first | done | omega)) only [go_sem]) (fun hH => ?_)
  simp (disch := first | omega | (simp only [go_sem]; first | done | omega)) only [go_sem]
  repeat' (first | ((first | refine acond_d ?_ ?_ | refine acond_b ?_ ?_ | refine ag_d ?_ ?_ | refine ag_n ?_ ?_ | refine ag_bt ?_ ?_ | refine ag_bf ?_ ?_) <;> intro c <;> try simp (disch := first | omega | (simp only [go_sem]; first | done | omega)) only [go_sem, c]) | ((first | refine w_draw (by kernel_rfl) (by decide +kernel) ?_ | refine momentR_a _ _ _ ?_) <;> try simp (disch := first | omega | (simp only [go_sem]; first | done | omega)) only [go_sem]))
  all_goals (first | refine Ret.sameE (Nat.le_refl _) (by assumption) ?_ | refine Ret.dropE (by assumption) (Nat.le_refl _) (by assumption) (by simp [AV.ok, AV.ok1, AC.ok]) ?_) <;> grind [momE]
theorem momentFaultR_a (m : Int) (hk : K (.c (.int .i64 (if 0 ≤ m ∧ m ≤ 345686399999 then 0 else 1))) H) : ACalls Tryz.prog 20 [(.c (.int .i64 m))] H K := by
  refine acalls Tryz.func20 rfl (by kernel_rfl) (by simp (disch := first | omega | (simp only [go_sem]; first | done | omega)) only [go_sem]) (fun hH => ?_)
  simp (disch := first | omega | (simp only [go_sem]; first | done | omega)) only [go_sem]
  repeat' (first | ((first | refine acond_d ?_ ?_ | refine acond_b ?_ ?_ | refine ag_d ?_ ?_ | refine ag_n ?_ ?_ | refine ag_bt ?_ ?_ | refine ag_bf ?_ ?_) <;> intro c <;> try simp (disch := first | omega | (simp only [go_sem]; first | done | omega)) only [go_sem, c]) | ((first | refine w_draw (by kernel_rfl) (by decide +kernel) ?_ | refine momentR_a _ _ _ ?_) <;> try simp (disch := first | omega | (simp only [go_sem]; first | done | omega)) only [go_sem]))
  all_goals (first | refine Ret.sameE (Nat.le_refl _) (by assumption) ?_ | refine Ret.dropE (by assumption) (Nat.le_refl _) (by assumption) (by simp [AV.ok, AV.ok1, AC.ok]) ?_) <;> (first | rfl | (simp only [AV.c.injEq, AC.bool.injEq]; rw [Bool.eq_iff_iff]; simp only [Bool.not_eq_true', decide_eq_true_eq, decide_eq_false_iff_not, Bool.and_eq_true, Bool.or_eq_true]; omega) | grind | (simp [*]; done) | (simp [*]; omega))
theorem inW_a (a b t : Int) (hk : K (.c (.bool (decide (a ≤ t ∧ t < b)))) H) : ACalls Tryz.prog 57 [.agg [.int .i64 a, .int .i64 b], (.c (.int .i64 t))] H K := by
  refine acalls Tryz.func57 rfl (by kernel_rfl) (by simp (disch := first | omega | (simp only [go_sem]; first | done | omega)) only [go_sem]) (fun hH => ?_)
  simp (disch := first | omega | (simp only [go_sem]; first | done | omega)) only [go_sem]
  repeat' (first | ((first | refine acond_d ?_ ?_ | refine acond_b ?_ ?_ | refine ag_d ?_ ?_ | refine ag_n ?_ ?_ | refine ag_bt ?_ ?_ | refine ag_bf ?_ ?_) <;> intro c <;> try simp (disch := first | omega | (simp only [go_sem]; first | done | omega)) only [go_sem, c]) | ((first | refine w_draw (by kernel_rfl) (by decide +kernel) ?_) <;> try simp (disch := first | omega | (simp only [go_sem]; first | done | omega)) only [go_sem]))
  all_goals (first | refine Ret.sameE (Nat.le_refl _) (by assumption) ?_ | refine Ret.dropE (by assumption) (Nat.le_refl _) (by assumption) (by simp [AV.ok, AV.ok1, AC.ok]) ?_) <;> (first | rfl | (simp only [AV.c.injEq, AC.bool.injEq]; rw [Bool.eq_iff_iff]; simp only [Bool.not_eq_true', decide_eq_true_eq, decide_eq_false_iff_not, Bool.and_eq_true, Bool.or_eq_true]; omega) | grind | (simp [*]; done) | (simp [*]; omega))
def ofF (h : List Hold) (tag : ByteArray) : List Hold := h.filter (fun x => decide (x.tag = noS ∨ x.tag = tag))
theorem of_a (h : List Hold) (tag : ByteArray) (hlen : h.length ≤ 1000) (hk : K (.c (.lst 6 ((ofF h tag).map encH))) H) : ACalls Tryz.prog 55 [.c (.lst 6 (h.map encH)), (.c (.str tag))] H K := by
  refine acalls Tryz.func55 rfl (by kernel_rfl) (by simp (disch := first | omega | (simp only [go_sem]; first | done | omega)) only [go_sem]) (fun hH => ?_)
  simp (disch := first | omega | (simp only [go_sem]; first | done | omega)) only [go_sem]
  refine AWp.loop (H.length) [1, 8, 9] [10, 5] (fun (k : Nat) => k ≤ h.length) (fun (k : Nat) => [(10, (.c (.int .i64 k))), (5, .c (grV H.length (ofF (h.take k) tag)))]) (fun (k : Nat) => H ++ [grO 94 6 ((ofF (h.take k) tag).map encH)]) (fun (k : Nat) => h.length - k) (by kernel_rfl) (fun _ => rfl) (by kernel_rfl) (by simp) (by first | (simp; done) | (simp; omega)) (by (try simp only [List.forall_mem_cons, List.not_mem_nil, false_implies, implies_true, and_true]); (try simp (disch := first | omega | (simp only [go_sem]; first | done | omega)) only [go_sem]); first | trivial | (simp [AV.ok, AV.ok1, AC.ok]; done) | (simp [AV.ok, AV.ok1, AC.ok]; omega) | (simp [AV.ok, AV.ok1, AC.ok]; assumption) | ((repeat' apply And.intro) <;> first | trivial | (simp [AV.ok, AV.ok1, AC.ok]; done) | (simp [AV.ok, AV.ok1, AC.ok]; omega) | (simp [AV.ok, AV.ok1, AC.ok]; assumption) | (refine grV_ok ?_ _; first | (simp; done) | (simp; omega) | omega))) ?_ (fun k hkb _ _ => ?_)
  · exact Next.mk 0 (by omega) (WkL.pad (by simp))
  have hfl : (ofF (h.take k) tag).length ≤ 1000 := by
    have h1 := List.length_filter_le (fun x : Hold => decide (x.tag = noS ∨ x.tag = tag)) (h.take k)
    have h2 : (h.take k).length ≤ h.length := by rw [List.length_take]; omega
    unfold ofF; omega
  by_cases hlt : k < h.length
  · have hn : ofF (h.take (k + 1)) tag = ofF (h.take k) tag ++ (if h[k].tag = noS ∨ h[k].tag = tag then [h[k]] else []) := by
      rw [List.take_succ_eq_append_getElem hlt, ofF, List.filter_append]
      congr 1
      by_cases c : h[k].tag = noS ∨ h[k].tag = tag <;> simp [c]
    simp (disch := first | omega | (simp only [go_sem]; first | done | omega)) only [go_sem]
    repeat' (first | ((first | refine acond_d ?_ ?_ | refine acond_b ?_ ?_ | refine ag_d ?_ ?_ | refine ag_n ?_ ?_ | refine ag_bt ?_ ?_ | refine ag_bf ?_ ?_) <;> intro c <;> try simp (disch := first | omega | (simp only [go_sem]; first | done | omega)) only [go_sem, c]) | ((first | refine w_draw (by kernel_rfl) (by decide +kernel) ?_) <;> try simp (disch := first | omega | (simp only [go_sem]; first | done | omega)) only [go_sem]))
    all_goals first
      | ((refine app_gr (enc := encH) (e := 94) (sz := 6) (bs := 64) (z := [.str ⟨#[]⟩, .str ⟨#[]⟩, .int .i64 0, .int .i64 0, .int .i64 0, .int .i64 0]) (ofF (h.take k) tag) (h[k]) (by kernel_rfl) (by kernel_rfl) (by kernel_rfl) (by kernel_rfl) (by first | exact at0 (by simp) | exact at1 (by simp) | exact at2 (by simp) | exact at3 (by simp) | exact at4 (by simp) | exact at5 (by simp) | exact atG 6 (by simp) rfl | exact atG 7 (by simp) rfl | exact atG 8 (by simp) rfl | exact atG 9 (by simp) rfl | exact atG 10 (by simp) rfl | assumption) (by first | (simp (disch := first | omega | (simp only [go_sem]; first | done | omega)) only [go_sem]; done) | (simp (disch := first | omega | (simp only [go_sem]; first | done | omega)) only [go_sem]; rfl) | (simp (disch := first | omega | (simp only [go_sem]; first | done | omega)) only [go_sem]; simp [go_sem]; done) | (simp (disch := first | omega | (simp only [go_sem]; first | done | omega)) only [go_sem]; simp [*]; done)) rfl (by decide) (by omega) (by omega) (by rfl) ?_)
         rw [if_pos (by first | exact .inl c | exact .inr c)] at hn
         simp (disch := first | omega | (simp only [go_sem]; first | done | omega)) only [go_sem]
         exact Next.mk (k + 1) ⟨by omega, by omega⟩ (by rw [hn]; ((try simp (disch := first | omega | (simp only [go_sem]; first | done | omega)) only [go_sem]); (first | refine WkL.pick [0] ?_ ?_ rfl ?_ ?_ ?_ ?_ | refine WkL.pick [1] ?_ ?_ rfl ?_ ?_ ?_ ?_ | refine WkL.pick [2] ?_ ?_ rfl ?_ ?_ ?_ ?_ | refine WkL.pick [3] ?_ ?_ rfl ?_ ?_ ?_ ?_ | refine WkL.pick [4] ?_ ?_ rfl ?_ ?_ ?_ ?_ | refine WkL.pick [5] ?_ ?_ rfl ?_ ?_ ?_ ?_ | refine WkL.pick [6] ?_ ?_ rfl ?_ ?_ ?_ ?_ | refine WkL.pick [7] ?_ ?_ rfl ?_ ?_ ?_ ?_ | refine WkL.pick [8] ?_ ?_ rfl ?_ ?_ ?_ ?_ | refine WkL.pick [9] ?_ ?_ rfl ?_ ?_ ?_ ?_ | refine WkL.pick [10] ?_ ?_ rfl ?_ ?_ ?_ ?_ | refine WkL.pick [11] ?_ ?_ rfl ?_ ?_ ?_ ?_ | refine WkL.pick [12] ?_ ?_ rfl ?_ ?_ ?_ ?_ | refine WkL.pick [13] ?_ ?_ rfl ?_ ?_ ?_ ?_ | refine WkL.pick [14] ?_ ?_ rfl ?_ ?_ ?_ ?_ | refine WkL.pick [15] ?_ ?_ rfl ?_ ?_ ?_ ?_) <;> first | assumption | exact HOk.str (by assumption) | (simp; done) | (simp; omega) | (simp [pureO_gr, AObj.pureO, pureL, go_sem, AC.pure]; done) | (simp only [List.all_cons, List.all_nil, Bool.and_true]; exact pureO_gr (pureL_map _ (fun x => by simp [go_sem, AC.pure]))) | ((try simp only [List.map_cons, List.map_nil, av_ren_gr]); simp [AV.ren, AV.ren1, AC.ren, pickS]; first | done | omega) | (simp only [List.forall_mem_cons, List.not_mem_nil, false_implies, implies_true, and_true]; (repeat' apply And.intro) <;> first | trivial | exact grV_ok (by simp) _ | exact okN_grO (fun x => by simp [go_sem, AC.pure]) | exact okN_map (fun x => by simp [go_sem, AC.pure]) | (simp [AV.ok, AV.ok1, AC.ok]; done) | (simp [AV.ok, AV.ok1, AC.ok]; omega) | (simp [AObj.okN, AC.ok]; done)) | (simp [AObj.okN]; done))))
      | (rw [if_neg (by rintro (h1 | h1) <;> contradiction), List.append_nil] at hn
         exact Next.mk (k + 1) ⟨by omega, by omega⟩ (by rw [hn]; ((try simp (disch := first | omega | (simp only [go_sem]; first | done | omega)) only [go_sem]); (first | refine WkL.pick [0] ?_ ?_ rfl ?_ ?_ ?_ ?_ | refine WkL.pick [1] ?_ ?_ rfl ?_ ?_ ?_ ?_ | refine WkL.pick [2] ?_ ?_ rfl ?_ ?_ ?_ ?_ | refine WkL.pick [3] ?_ ?_ rfl ?_ ?_ ?_ ?_ | refine WkL.pick [4] ?_ ?_ rfl ?_ ?_ ?_ ?_ | refine WkL.pick [5] ?_ ?_ rfl ?_ ?_ ?_ ?_ | refine WkL.pick [6] ?_ ?_ rfl ?_ ?_ ?_ ?_ | refine WkL.pick [7] ?_ ?_ rfl ?_ ?_ ?_ ?_ | refine WkL.pick [8] ?_ ?_ rfl ?_ ?_ ?_ ?_ | refine WkL.pick [9] ?_ ?_ rfl ?_ ?_ ?_ ?_ | refine WkL.pick [10] ?_ ?_ rfl ?_ ?_ ?_ ?_ | refine WkL.pick [11] ?_ ?_ rfl ?_ ?_ ?_ ?_ | refine WkL.pick [12] ?_ ?_ rfl ?_ ?_ ?_ ?_ | refine WkL.pick [13] ?_ ?_ rfl ?_ ?_ ?_ ?_ | refine WkL.pick [14] ?_ ?_ rfl ?_ ?_ ?_ ?_ | refine WkL.pick [15] ?_ ?_ rfl ?_ ?_ ?_ ?_) <;> first | assumption | exact HOk.str (by assumption) | (simp; done) | (simp; omega) | (simp [pureO_gr, AObj.pureO, pureL, go_sem, AC.pure]; done) | (simp only [List.all_cons, List.all_nil, Bool.and_true]; exact pureO_gr (pureL_map _ (fun x => by simp [go_sem, AC.pure]))) | ((try simp only [List.map_cons, List.map_nil, av_ren_gr]); simp [AV.ren, AV.ren1, AC.ren, pickS]; first | done | omega) | (simp only [List.forall_mem_cons, List.not_mem_nil, false_implies, implies_true, and_true]; (repeat' apply And.intro) <;> first | trivial | exact grV_ok (by simp) _ | exact okN_grO (fun x => by simp [go_sem, AC.pure]) | exact okN_map (fun x => by simp [go_sem, AC.pure]) | (simp [AV.ok, AV.ok1, AC.ok]; done) | (simp [AV.ok, AV.ok1, AC.ok]; omega) | (simp [AObj.okN, AC.ok]; done)) | (simp [AObj.okN]; done))))
  · rw [List.take_of_length_le (by omega)]
    simp (disch := first | omega | (simp only [go_sem]; first | done | omega)) only [go_sem]
    exact Ret.frzGr 0 hH (Nat.le_refl _) rfl (pureL_map _ (fun x => by simp [AC.pure])) (map_grV _ _ _).symm hk
theorem indexH_a (f : FuncId) (caps : List (Nat × Nat × Nat)) (p : Hold → Bool) (he : entersB Tryz.prog f = true) (hc : ∀ (a b c : Nat), (a, b, c) ∈ caps → a < H.length) (l : List Hold) (hf : ∀ (x : Hold) (K : AV → Hp → Prop), x ∈ l → K (.c (.bool (p x))) H → ACalls Tryz.prog f (.agg (encH x) :: caps.map fun q => .c (.ptr (some q))) H K) (hlen : l.length ≤ 1099511627776) (hk : ∀ r : Int, (0 ≤ r ↔ l.any p = true) → K (.c (.int .i64 r)) H) : ACalls Tryz.prog 99 [.c (.lst 6 (l.map encH)), .c (.fn f [] caps)] H K := by
  refine acalls Tryz.func99 rfl (by kernel_rfl) (by simp (disch := first | omega | (simp only [go_sem]; first | done | omega)) only [go_sem]) (fun hH => ?_)
  simp (disch := first | omega | (simp only [go_sem]; first | done | omega)) only [go_sem]
  refine AWp.loop (H.length) [0, 1, 7] [8] (fun (k : Nat) => k ≤ l.length ∧ ∀ j (h : j < l.length), j < k → p l[j] = false) (fun (k : Nat) => [(8, (.c (.int .i64 k)))]) (fun (k : Nat) => H) (fun (k : Nat) => l.length - k) (by kernel_rfl) (fun _ => rfl) (by kernel_rfl) (by simp) (by first | (simp; done) | (simp; omega)) (by (try simp only [List.forall_mem_cons, List.not_mem_nil, false_implies, implies_true, and_true]); (try simp (disch := first | omega | (simp only [go_sem]; first | done | omega)) only [go_sem]); first | trivial | (simp [AV.ok, AV.ok1, AC.ok]; done) | (simp [AV.ok, AV.ok1, AC.ok]; omega) | (simp [AV.ok, AV.ok1, AC.ok]; assumption) | ((repeat' apply And.intro) <;> first | trivial | (simp [AV.ok, AV.ok1, AC.ok]; done) | (simp [AV.ok, AV.ok1, AC.ok]; omega) | (simp [AV.ok, AV.ok1, AC.ok]; assumption) | (refine grV_ok ?_ _; first | (simp; done) | (simp; omega) | omega))) ?_ (fun k hk1 _ _ => ?_)
  · exact Next.mk 0 (by simp) (by (try simp (disch := first | omega | (simp only [go_sem]; first | done | omega)) only [go_sem]); (first | refine WkL.eq ?_ ?_ | refine WkL.rest (by assumption) ?_ ?_ ?_ | refine WkL.keepL (by assumption) rfl ?_ ?_ ?_ ?_) <;> first | rfl | (simp; done) | (simp; omega) | (simp only [List.cons.injEq, AV.c.injEq, AC.int.injEq, AC.bool.injEq, AC.str.injEq, and_true, true_and, Int.natCast_add, Int.natCast_one, Int.cast_ofNat_Int]; omega) | (simp [AV.ok, AV.ok1, AC.ok]; done) | (simp [AV.ok, AV.ok1, AC.ok]; omega) | (simp only [List.forall_mem_cons, List.not_mem_nil, false_implies, implies_true, and_true]; (repeat' apply And.intro) <;> first | exact okN_map (fun x => by simp [go_sem, AC.pure]) | exact okN_grO (fun x => by simp [go_sem, AC.pure]) | (simp [AObj.okN, AC.ok]; done) | (simp [AObj.okN, AC.ok]; omega)) | (simp [*]; done) | grind)
  obtain ⟨hk1, hk2⟩ := hk1
  by_cases hlt : k < l.length
  · simp (disch := first | omega | (simp only [go_sem]; first | done | omega)) only [go_sem, he]
    refine hf l[k] _ (List.getElem_mem hlt) ?_
    simp (disch := first | omega | (simp only [go_sem]; first | done | omega)) only [go_sem]
    refine acond_b (fun c => ?_) (fun c => ?_)
    · simp (disch := first | omega | (simp only [go_sem]; first | done | omega)) only [go_sem]
      refine Ret.same (Nat.le_refl _) (hk k ?_)
      simp only [Int.natCast_nonneg, List.any_eq_true, true_iff]
      exact ⟨l[k], List.getElem_mem _, c⟩
    · simp (disch := first | omega | (simp only [go_sem]; first | done | omega)) only [go_sem]
      refine Next.mk (k + 1) ⟨⟨by omega, fun j h hj => ?_⟩, by omega⟩ (by (try simp (disch := first | omega | (simp only [go_sem]; first | done | omega)) only [go_sem]); (first | refine WkL.eq ?_ ?_ | refine WkL.rest (by assumption) ?_ ?_ ?_ | refine WkL.keepL (by assumption) rfl ?_ ?_ ?_ ?_) <;> first | rfl | (simp; done) | (simp; omega) | (simp only [List.cons.injEq, AV.c.injEq, AC.int.injEq, AC.bool.injEq, AC.str.injEq, and_true, true_and, Int.natCast_add, Int.natCast_one, Int.cast_ofNat_Int]; omega) | (simp [AV.ok, AV.ok1, AC.ok]; done) | (simp [AV.ok, AV.ok1, AC.ok]; omega) | (simp only [List.forall_mem_cons, List.not_mem_nil, false_implies, implies_true, and_true]; (repeat' apply And.intro) <;> first | exact okN_map (fun x => by simp [go_sem, AC.pure]) | exact okN_grO (fun x => by simp [go_sem, AC.pure]) | (simp [AObj.okN, AC.ok]; done) | (simp [AObj.okN, AC.ok]; omega)) | (simp [*]; done) | grind)
      rcases Nat.lt_or_ge j k with h1 | h1
      · exact hk2 j h h1
      · obtain rfl : j = k := by omega
        simpa using c
  · simp (disch := first | omega | (simp only [go_sem]; first | done | omega)) only [go_sem]
    refine Ret.same (Nat.le_refl _) (hk (-1) ?_)
    have : l.any p = false := by
      rw [List.any_eq_false]
      intro x hx
      obtain ⟨j, hj, rfl⟩ := List.getElem_of_mem hx
      simpa using hk2 j hj (by omega)
    simp [this]
theorem containsH_a (f : FuncId) (caps : List (Nat × Nat × Nat)) (p : Hold → Bool) (he : entersB Tryz.prog f = true) (hc : ∀ (a b c : Nat), (a, b, c) ∈ caps → a < H.length) (l : List Hold) (hf : ∀ (x : Hold) (K : AV → Hp → Prop), x ∈ l → K (.c (.bool (p x))) H → ACalls Tryz.prog f (.agg (encH x) :: caps.map fun q => .c (.ptr (some q))) H K) (hlen : l.length ≤ 1099511627776) (hk : K (.c (.bool (l.any p))) H) : ACalls Tryz.prog 54 [.c (.lst 6 (l.map encH)), .c (.fn f [] caps)] H K := by
  refine acalls Tryz.func54 rfl (by kernel_rfl) (by simp (disch := first | omega | (simp only [go_sem]; first | done | omega)) only [go_sem]) (fun hH => ?_)
  simp (disch := first | omega | (simp only [go_sem]; first | done | omega)) only [go_sem]
  refine indexH_a f caps p he hc l hf hlen (fun r hr => ?_)
  simp (disch := first | omega | (simp only [go_sem]; first | done | omega)) only [go_sem]
  refine Ret.same (Nat.le_refl _) ?_
  rw [show decide (0 ≤ r) = l.any p by rw [Bool.eq_iff_iff, decide_eq_true_eq]; exact hr]
  exact hk
/-- a hold that is in force holds the data of a time -/
def inForce (x : Hold) (w0 w1 t : Int) : Bool := decide (x.t0 < w1 ∧ w0 < x.t1 ∧ x.made ≤ t ∧ t < x.ends)
theorem held1_a {i j : Nat} {ty ty2 : Nat} {o o2 : Bool} (x : Hold) (m t : Int) (hi : H[i]? = some (.row ty 1 [[.int .i64 m]] o)) (hj : H[j]? = some (.row ty2 1 [[.int .i64 t]] o2)) (hk : K (.c (.bool (decide (x.t0 ≤ m ∧ m < x.t1 ∧ x.made ≤ t ∧ t < x.ends)))) H) : ACalls Tryz.prog 56 [.agg (encH x), .c (.ptr (some (i, 0, 0))), .c (.ptr (some (j, 0, 0)))] H K := by
  have hi1 := getElem?_lt hi
  have hj1 := getElem?_lt hj
  refine acalls Tryz.func56 rfl (by kernel_rfl) (by simp (disch := first | omega | (simp only [go_sem]; first | done | omega)) only [go_sem]) (fun hH => ?_)
  simp (disch := first | omega | (simp only [go_sem]; first | done | omega)) only [go_sem, hi, hj]
  repeat' (first | ((first | refine acond_d ?_ ?_ | refine acond_b ?_ ?_ | refine ag_d ?_ ?_ | refine ag_n ?_ ?_ | refine ag_bt ?_ ?_ | refine ag_bf ?_ ?_) <;> intro c <;> try simp (disch := first | omega | (simp only [go_sem]; first | done | omega)) only [go_sem, c, hi, hj]) | ((first | refine w_draw (by kernel_rfl) (by decide +kernel) ?_ | refine inW_a _ _ _ ?_) <;> try simp (disch := first | omega | (simp only [go_sem]; first | done | omega)) only [go_sem, hi, hj]))
  all_goals exact Ret.dropE hH (Nat.le_refl _) hk trivial (by simp only [AV.c.injEq, AC.bool.injEq]; rw [Bool.eq_iff_iff]; simp only [decide_eq_true_eq, Bool.false_eq_true, false_iff]; omega)
theorem first3_lit (a b c : Int) {i ty n : Nat} {els : List (List AC)} {own : Bool} (hi : H[i]? = some (.row ty 1 els own)) (he : els = [[.int .i64 a], [.int .i64 b], [.int .i64 c]]) (hn : n = 3) (hk : K (.c (.int .i64 (firstE [a, b, c]))) (H.set i .dead)) : ACalls Tryz.prog 51 [.c (.sl (some (i, 0)) n)] H K := by
  subst he hn
  exact ACalls.lit hi (by simp [pureL, AC.pure]) (args' := [.c (.lst 1 ([a, b, c].map encI))]) (by simp [AV.frz1, AC.frz, encI]) (first_a [a, b, c] (by simp) hk)
theorem ofF_len (h : List Hold) (tag : ByteArray) : (ofF h tag).length ≤ h.length := List.length_filter_le _ _
theorem held_a (h : List Hold) (tag : ByteArray) (m t : Int) (hlen : h.length ≤ 1000) (hs : ∀ x ∈ h, x.short) (ht : tag.size ≤ 1000)
    (hk : K (.tup [(.c (.bool (decide (firstE [hdF h, tagE tag, momE m t] = 0) && (ofF h tag).any (fun x => decide (x.t0 ≤ m ∧ m < x.t1 ∧ x.made ≤ t ∧ t < x.ends))))), (.c (.int .i64 (firstE [hdF h, tagE tag, momE m t])))]) H) : ACalls Tryz.prog 11 [.c (.lst 6 (h.map encH)), (.c (.str tag)), (.c (.int .i64 m)), (.c (.int .i64 t))] H K := by
  refine acalls Tryz.func11 rfl (by kernel_rfl) (by simp (disch := first | omega | (simp only [go_sem]; first | done | omega)) only [go_sem]) (fun hH => ?_)
  simp (disch := first | omega | (simp only [go_sem]; first | done | omega)) only [go_sem]
  have hol := ofF_len h tag
  repeat' (first | ((first | refine acond_d ?_ ?_ | refine acond_b ?_ ?_ | refine ag_d ?_ ?_ | refine ag_n ?_ ?_ | refine ag_bt ?_ ?_ | refine ag_bf ?_ ?_ | refine agt_d ?_ ?_ | refine agt_n ?_ ?_ | refine agt_bt ?_ ?_ | refine agt_bf ?_ ?_) <;> intro c <;> try simp (disch := first | omega | (simp only [go_sem]; first | done | omega)) only [go_sem, c]) | ((first | refine w_draw (by kernel_rfl) (by decide +kernel) ?_ | refine checkHolds_a h (by omega) hs ?_ | refine tagFault_a tag ht ?_ | refine momentFault_a m t ?_ | refine first3_lit (hdF h) (tagE tag) (momE m t) (by first | exact at0 (by simp) | exact at1 (by simp) | exact at2 (by simp) | exact at3 (by simp) | exact at4 (by simp) | exact at5 (by simp) | exact atG 6 (by simp) rfl | exact atG 7 (by simp) rfl | exact atG 8 (by simp) rfl | exact atG 9 (by simp) rfl | exact atG 10 (by simp) rfl | assumption) rfl rfl ?_ | refine w_tree (.one 0 (.one 2 (.three 1 (.three 3 (.one 4 (.one 5 (.one 6 (.one 7 (.one 8 (.one 9 .done)))))) 4 (.two 3 (.one 5 (.one 6 (.one 7 (.one 8 (.one 9 .done))))) 5 (.one 3 (.one 6 (.one 7 (.one 8 (.one 9 .done)))))) 5 (.two 3 (.one 4 (.one 6 (.one 7 (.one 8 (.one 9 .done))))) 4 (.one 3 (.one 6 (.one 7 (.one 8 (.one 9 .done))))))) 4 (.two 1 (.two 3 (.one 5 (.one 6 (.one 7 (.one 8 (.one 9 .done))))) 5 (.one 3 (.one 6 (.one 7 (.one 8 (.one 9 .done)))))) 5 (.one 1 (.one 3 (.one 6 (.one 7 (.one 8 (.one 9 .done))))))) 5 (.two 1 (.two 3 (.one 4 (.one 6 (.one 7 (.one 8 (.one 9 .done))))) 4 (.one 3 (.one 6 (.one 7 (.one 8 (.one 9 .done)))))) 4 (.one 1 (.one 3 (.one 6 (.one 7 (.one 8 (.one 9 .done)))))))))) (by kernel_rfl) (by decide +kernel) ?_) <;> try simp (disch := first | omega | (simp only [go_sem]; first | done | omega)) only [go_sem]) | (refine And.intro ?_ ?_ <;> try simp (disch := first | omega | (simp only [go_sem]; first | done | omega)) only [go_sem]))
  all_goals
    by_cases c0 : firstE [hdF h, tagE tag, momE m t] = 0
    · first
        | (refine of_a h tag hlen ?_
           simp (disch := first | omega | (simp only [go_sem]; first | done | omega)) only [go_sem]
           refine containsH_a 56 [(H.length, 0, 0), (H.length + 1, 0, 0)] (fun x => decide (x.t0 ≤ m ∧ m < x.t1 ∧ x.made ≤ t ∧ t < x.ends)) (by kernel_rfl) (by simp; omega) (ofF h tag) (fun x K _ hK => held1_a x m t (by first | exact at0 (by simp) | exact at1 (by simp) | exact at2 (by simp) | exact at3 (by simp) | exact at4 (by simp) | exact at5 (by simp) | exact atG 6 (by simp) rfl | exact atG 7 (by simp) rfl | exact atG 8 (by simp) rfl | exact atG 9 (by simp) rfl | exact atG 10 (by simp) rfl | assumption) (by first | exact at0 (by simp) | exact at1 (by simp) | exact at2 (by simp) | exact at3 (by simp) | exact at4 (by simp) | exact at5 (by simp) | exact atG 6 (by simp) rfl | exact atG 7 (by simp) rfl | exact atG 8 (by simp) rfl | exact atG 9 (by simp) rfl | exact atG 10 (by simp) rfl | assumption) hK) (by omega) ?_
           simp (disch := first | omega | (simp only [go_sem]; first | done | omega)) only [go_sem]
           rw [c0, decide_eq_true rfl, Bool.true_and] at hk
           exact Ret.drop hH (Nat.le_refl _) (by simp [AV.ok, AV.ok1, AC.ok]) hk)
        | (exact absurd c0 c)
    · first
        | (rw [decide_eq_false c0, Bool.false_and] at hk
           exact Ret.drop hH (Nat.le_refl _) (by simp [AV.ok, AV.ok1, AC.ok]) hk)
        | (exact absurd c c0)
end Go.Proofs.YtkmkkjlfnobciaaGreat
