/- Bins merged: the program and the document's answer. Condition: the lists are short. -/
import Derived.Test.YtfhadgemgfpdbaaVConcat
import Derived.Test.YtfhadgemgfpdbaaVCoarse2
namespace Go.Proofs.Ytfhadgemgfpdbaa
open Go Go.RowKit
set_option maxRecDepth 100000
set_option linter.all false
set_option maxHeartbeats 1000000
variable {H : Hp} {K : AV → Hp → Prop}
theorem sinkB_len : ∀ (j : Nat) (l : List Bin), (sinkB j l).length = l.length
  | 0, _ => rfl
  | j + 1, l => by
    unfold sinkB
    split
    · split
      · rw [sinkB_len j]; simp
      · rfl
    · rfl
theorem sinkB_mem : ∀ (j : Nat) (l : List Bin) (x : Bin), x ∈ sinkB j l → x ∈ l
  | 0, _, _, h => h
  | j + 1, l, x, h => by
    unfold sinkB at h
    split at h
    · rename_i a b ha hb
      split at h
      · have := sinkB_mem j _ x h
        rcases List.mem_or_eq_of_mem_set this with h1 | rfl
        · rcases List.mem_or_eq_of_mem_set h1 with h2 | rfl
          · exact h2
          · exact List.mem_of_getElem? hb
        · exact List.mem_of_getElem? ha
      · exact h
    · exact h
theorem isortGo_len : ∀ (c i : Nat) (l : List Bin), (isortGo c i l).length = l.length
  | 0, _, _ => rfl
  | c + 1, i, l => by rw [isortGo, isortGo_len c, sinkB_len]
theorem isortGo_mem : ∀ (c i : Nat) (l : List Bin) (x : Bin), x ∈ isortGo c i l → x ∈ l
  | 0, _, _, _, h => h
  | c + 1, i, l, x, h => sinkB_mem i l x (isortGo_mem c (i + 1) _ x h)
theorem isortB_len (l : List Bin) : (isortB l).length = l.length := isortGo_len _ _ _
theorem isortB_mem (l : List Bin) (x : Bin) (h : x ∈ isortB l) : x ∈ l := isortGo_mem _ _ _ x h
theorem insNil_a (f : FuncId) (hk : K (.tup []) H) : ACalls Try.prog 81 [.c (.sl none 0), (.c (.int .i64 0)), (.c (.int .i64 0)), .c (.fn f [] [])] H K := by
  refine acalls Try.func81 rfl (by kernel_rfl) (by simp (disch := first | omega | (simp only [go_sem]; first | done | omega)) only [go_sem]) (fun hH => ?_)
  simp (disch := first | omega | (simp only [go_sem]; first | done | omega)) only [go_sem]
  refine AWp.loop (H.length) [0, 1, 2, 3] [8] (fun (q : Unit) => True) (fun (q : Unit) => [(8, (.c (.int .i64 1)))]) (fun (q : Unit) => H) (fun (q : Unit) => 0) (by kernel_rfl) (fun _ => rfl) (by kernel_rfl) (by simp) (by first | (simp; done) | (simp; omega)) (by (try simp only [List.forall_mem_cons, List.not_mem_nil, false_implies, implies_true, and_true]); (try simp (disch := first | omega | (simp only [go_sem]; first | done | omega)) only [go_sem]); first | trivial | (simp [AV.ok, AV.ok1, AC.ok]; done) | (simp [AV.ok, AV.ok1, AC.ok]; omega) | ((repeat' apply And.intro) <;> first | trivial | (simp [AV.ok, AV.ok1, AC.ok]; done) | (simp [AV.ok, AV.ok1, AC.ok]; omega) | (refine grV_ok ?_ _; first | (simp; done) | (simp; omega) | omega))) ?_ (fun q hq _ _ => ?_)
  · exact Next.mk () trivial (by (try simp (disch := first | omega | (simp only [go_sem]; first | done | omega)) only [go_sem]); (first | refine WkL.eq ?_ ?_ | refine WkL.rest (by assumption) ?_ ?_ ?_ | refine WkL.keepL (by assumption) rfl ?_ ?_ ?_ ?_) <;> first | rfl | (simp; done) | (simp; omega) | (simp only [List.cons.injEq, AV.c.injEq, AC.int.injEq, AC.bool.injEq, AC.str.injEq, and_true, true_and, Int.natCast_add, Int.natCast_one, Int.cast_ofNat_Int]; omega) | (simp [AV.ok, AV.ok1, AC.ok]; done) | (simp [AV.ok, AV.ok1, AC.ok]; omega) | (simp only [List.forall_mem_cons, List.not_mem_nil, false_implies, implies_true, and_true]; (repeat' apply And.intro) <;> first | exact okN_map (fun x => by simp [go_sem, AC.pure]) | exact okN_grO (fun x => by simp [go_sem, AC.pure]) | (simp [AObj.okN, AC.ok]; done) | (simp [AObj.okN, AC.ok]; omega)) | (simp [*]; done) | grind)
  simp (disch := first | omega | (simp only [go_sem]; first | done | omega)) only [go_sem]
  exact Ret.same (by simp) hk
theorem stabNil_a (f : FuncId) (hk : K (.tup []) H) : ACalls Try.prog 75 [.c (.sl none 0), (.c (.int .i64 0)), .c (.fn f [] [])] H K := by
  refine acalls Try.func75 rfl (by kernel_rfl) (by simp (disch := first | omega | (simp only [go_sem]; first | done | omega)) only [go_sem]) (fun hH => ?_)
  simp (disch := first | omega | (simp only [go_sem]; first | done | omega)) only [go_sem]
  refine AWp.loop (H.length) [0, 1, 2, 6] [7, 8] (fun (q : Unit) => True) (fun (q : Unit) => [(7, (.c (.int .i64 0))), (8, (.c (.int .i64 20)))]) (fun (q : Unit) => H) (fun (q : Unit) => 0) (by kernel_rfl) (fun _ => rfl) (by kernel_rfl) (by simp) (by first | (simp; done) | (simp; omega)) (by (try simp only [List.forall_mem_cons, List.not_mem_nil, false_implies, implies_true, and_true]); (try simp (disch := first | omega | (simp only [go_sem]; first | done | omega)) only [go_sem]); first | trivial | (simp [AV.ok, AV.ok1, AC.ok]; done) | (simp [AV.ok, AV.ok1, AC.ok]; omega) | ((repeat' apply And.intro) <;> first | trivial | (simp [AV.ok, AV.ok1, AC.ok]; done) | (simp [AV.ok, AV.ok1, AC.ok]; omega) | (refine grV_ok ?_ _; first | (simp; done) | (simp; omega) | omega))) ?_ (fun q hq _ _ => ?_)
  · exact Next.mk () trivial (by (try simp (disch := first | omega | (simp only [go_sem]; first | done | omega)) only [go_sem]); (first | refine WkL.eq ?_ ?_ | refine WkL.rest (by assumption) ?_ ?_ ?_ | refine WkL.keepL (by assumption) rfl ?_ ?_ ?_ ?_) <;> first | rfl | (simp; done) | (simp; omega) | (simp only [List.cons.injEq, AV.c.injEq, AC.int.injEq, AC.bool.injEq, AC.str.injEq, and_true, true_and, Int.natCast_add, Int.natCast_one, Int.cast_ofNat_Int]; omega) | (simp [AV.ok, AV.ok1, AC.ok]; done) | (simp [AV.ok, AV.ok1, AC.ok]; omega) | (simp only [List.forall_mem_cons, List.not_mem_nil, false_implies, implies_true, and_true]; (repeat' apply And.intro) <;> first | exact okN_map (fun x => by simp [go_sem, AC.pure]) | exact okN_grO (fun x => by simp [go_sem, AC.pure]) | (simp [AObj.okN, AC.ok]; done) | (simp [AObj.okN, AC.ok]; omega)) | (simp [*]; done) | grind)
  simp (disch := first | omega | (simp only [go_sem]; first | done | omega)) only [go_sem]
  refine insNil_a f ?_
  simp (disch := first | omega | (simp only [go_sem]; first | done | omega)) only [go_sem]
  refine AWp.loop (H.length) [0, 1, 2] [6] (fun (q : Unit) => True) (fun (q : Unit) => [(6, (.c (.int .i64 20)))]) (fun (q : Unit) => H) (fun (q : Unit) => 0) (by kernel_rfl) (fun _ => rfl) (by kernel_rfl) (by simp) (by first | (simp; done) | (simp; omega)) (by (try simp only [List.forall_mem_cons, List.not_mem_nil, false_implies, implies_true, and_true]); (try simp (disch := first | omega | (simp only [go_sem]; first | done | omega)) only [go_sem]); first | trivial | (simp [AV.ok, AV.ok1, AC.ok]; done) | (simp [AV.ok, AV.ok1, AC.ok]; omega) | ((repeat' apply And.intro) <;> first | trivial | (simp [AV.ok, AV.ok1, AC.ok]; done) | (simp [AV.ok, AV.ok1, AC.ok]; omega) | (refine grV_ok ?_ _; first | (simp; done) | (simp; omega) | omega))) ?_ (fun q hq _ _ => ?_)
  · exact Next.mk () trivial (by (try simp (disch := first | omega | (simp only [go_sem]; first | done | omega)) only [go_sem]); (first | refine WkL.eq ?_ ?_ | refine WkL.rest (by assumption) ?_ ?_ ?_ | refine WkL.keepL (by assumption) rfl ?_ ?_ ?_ ?_) <;> first | rfl | (simp; done) | (simp; omega) | (simp only [List.cons.injEq, AV.c.injEq, AC.int.injEq, AC.bool.injEq, AC.str.injEq, and_true, true_and, Int.natCast_add, Int.natCast_one, Int.cast_ofNat_Int]; omega) | (simp [AV.ok, AV.ok1, AC.ok]; done) | (simp [AV.ok, AV.ok1, AC.ok]; omega) | (simp only [List.forall_mem_cons, List.not_mem_nil, false_implies, implies_true, and_true]; (repeat' apply And.intro) <;> first | exact okN_map (fun x => by simp [go_sem, AC.pure]) | exact okN_grO (fun x => by simp [go_sem, AC.pure]) | (simp [AObj.okN, AC.ok]; done) | (simp [AObj.okN, AC.ok]; omega)) | (simp [*]; done) | grind)
  simp (disch := first | omega | (simp only [go_sem]; first | done | omega)) only [go_sem]
  exact Ret.same (by simp) hk
theorem sortGr_a (f : FuncId) (cf : Bin → Bin → Int) (P : Bin → Prop) (he : entersB Try.prog f = true) (hc : ∀ x y, P x → P y → (cf x y < 0 ↔ x.a < y.a)) (hf : ∀ (x y : Bin) (H : Hp) (K : AV → Hp → Prop), P x → P y → K (.c (.int .i64 (cf x y))) H → ACalls Try.prog f [.agg (encN x), .agg (encN y)] H K)
    {i : Nat} (l : List Bin) (hi : H[i]? = some (grO 62 6 (l.map encN))) (hP : ∀ x ∈ l, P x) (hlen : l.length < 20) (hk : K (.tup []) (H.set i (grO 62 6 ((isortB l).map encN)))) :
    ACalls Try.prog 54 [.c (grV i l), .c (.fn f [] [])] H K := by
  by_cases h : l = []
  · subst h
    have hd : H.set i .dead = H := by
      have hlt := getElem?_lt hi
      apply List.ext_getElem?
      intro j
      by_cases e : i = j
      · subst e; rw [List.getElem?_set_self hlt, hi]; rfl
      · rw [List.getElem?_set_ne e]
    have hk : K (.tup []) (H.set i .dead) := hk
    rw [hd] at hk
    simp only [grV]
    refine acalls Try.func54 rfl (by kernel_rfl) (by simp (disch := first | omega | (simp only [go_sem]; first | done | omega)) only [go_sem]) (fun hH => ?_)
    simp (disch := first | omega | (simp only [go_sem]; first | done | omega)) only [go_sem]
    refine stabNil_a f ?_
    simp (disch := first | omega | (simp only [go_sem]; first | done | omega)) only [go_sem]
    exact Ret.same (by simp) hk
  · have h2 : l.map encN ≠ [] := by simpa using h
    have h3 : (isortB l).map encN ≠ [] := by intro h4; have := congrArg List.length h4; simp [isortB_len] at this; exact h this
    rw [grO_pos _ _ h2] at hi
    rw [grO_pos _ _ h3] at hk
    rw [grV_pos _ h]
    exact sortStable_a f cf P he hc hf l hi rfl hP hlen hk
theorem cmp_lt (x y : Int) : ((if x < y then -1 else if y < x then 1 else 0 : Int) < 0 ↔ x < y) := by
  split
  · omega
  · split <;> omega
def mergeB (a b : List Bin) : List Bin × Int := combRes (isortB (a ++ b))
def mergeRes (a b : List Bin) (step : Int) : List Bin × Int := if firstE [bnF a step, bnF b step] ≠ 0 then ([], firstE [bnF a step, bnF b step]) else mergeB a b
theorem mergedBins_a (a b : List Bin) (step : Int) (ha : bnF a step = 0) (hb : bnF b step = 0) (hl : a.length + b.length < 20) (hk : K (.tup [.c (.lst 6 ((mergeB a b).1.map encN)), (.c (.int .i64 ((mergeB a b).2)))]) H) : ACalls Try.prog 28 [.c (.lst 6 (a.map encN)), .c (.lst 6 (b.map encN))] H K := by
  obtain ⟨hs, _, hra⟩ := bnF_ok ha
  obtain ⟨_, _, hrb⟩ := bnF_ok hb
  have hr : ∀ x ∈ a ++ b, x.right := fun x hx => by
    rcases List.mem_append.1 hx with h | h
    · exact hra x h
    · exact hrb x h
  have hP : ∀ x ∈ a ++ b, 0 ≤ x.a ∧ x.a ≤ 345686399999 := fun x hx => ⟨(hr x hx).1, (hr x hx).2.1⟩
  have hlen : (a ++ b).length < 20 := by simp; omega
  have hfine : ∀ x ∈ isortB (a ++ b), x.fine := fun x hx => by
    have := hr x (isortB_mem _ _ hx)
    simp only [Bin.right] at this
    exact ⟨by omega, by simp only [Bin.bd]; omega⟩
  refine acalls Try.func28 rfl (by kernel_rfl) (by simp (disch := first | omega | (simp only [go_sem]; first | done | omega)) only [go_sem]) (fun hH => ?_)
  simp (disch := first | omega | (simp only [go_sem]; first | done | omega)) only [go_sem]
  refine ACalls.lit (i := H.length) (by first | exact at0 (by simp) | exact at1 (by simp) | exact at2 (by simp) | exact at3 (by simp) | exact at4 (by simp) | exact at5 (by simp) | exact atG 6 (by simp) rfl | exact atG 7 (by simp) rfl | exact atG 8 (by simp) rfl | exact atG 9 (by simp) rfl | exact atG 10 (by simp) rfl | assumption) (by simp [pureL, AC.pure]) (args' := [.c (.lst 1 [[.lst 6 (a.map encN)], [.lst 6 (b.map encN)]])]) (by simp [AV.frz1, AC.frz]) (concatN_a a b (by omega) (by omega) ?_)
  simp (disch := first | omega | (simp only [go_sem]; first | done | omega)) only [go_sem]
  refine sortGr_a _ (fun x y => if x.a < y.a then -1 else if y.a < x.a then 1 else 0) (fun x => 0 ≤ x.a ∧ x.a ≤ 345686399999) (by kernel_rfl) (fun x y _ _ => cmp_lt x.a y.a) (fun x y H K hx hy h => cmp2_a x y hx hy h) (a ++ b) (by first | exact at0 (by simp) | exact at1 (by simp) | exact at2 (by simp) | exact at3 (by simp) | exact at4 (by simp) | exact at5 (by simp) | exact atG 6 (by simp) rfl | exact atG 7 (by simp) rfl | exact atG 8 (by simp) rfl | exact atG 9 (by simp) rfl | exact atG 10 (by simp) rfl | assumption) hP hlen ?_
  simp (disch := first | omega | (simp only [go_sem]; first | done | omega)) only [go_sem]
  refine ACalls.litGr (by first | exact at0 (by simp) | exact at1 (by simp) | exact at2 (by simp) | exact at3 (by simp) | exact at4 (by simp) | exact at5 (by simp) | exact atG 6 (by simp) rfl | exact atG 7 (by simp) rfl | exact atG 8 (by simp) rfl | exact atG 9 (by simp) rfl | exact atG 10 (by simp) rfl | assumption) (by simp [isortB_len]) (pureL_encN _) rfl (combR_a _ (by rw [isortB_len]; omega) hfine ?_)
  simp (disch := first | omega | (simp only [go_sem]; first | done | omega)) only [go_sem]
  exact Ret.drop hH (Nat.le_refl _) (by simp [AV.ok, AV.ok1, AC.ok]) hk
theorem mergeBins_a (a b : List Bin) (step : Int) (hn : a.length ≤ 9) (hm : b.length ≤ 9) (hk : K (.tup [.c (.lst 6 ((mergeRes a b step).1.map encN)), (.c (.int .i64 ((mergeRes a b step).2)))]) H) : ACalls Try.prog 22 [.c (.lst 6 (a.map encN)), .c (.lst 6 (b.map encN)), (.c (.int .i64 step))] H K := by
  refine acalls Try.func22 rfl (by kernel_rfl) (by simp (disch := first | omega | (simp only [go_sem]; first | done | omega)) only [go_sem]) (fun hH => ?_)
  simp (disch := first | omega | (simp only [go_sem]; first | done | omega)) only [go_sem]
  refine checkBins_a a step (by omega) ?_
  simp (disch := first | omega | (simp only [go_sem]; first | done | omega)) only [go_sem]
  refine checkBins_a b step (by omega) ?_
  simp (disch := first | omega | (simp only [go_sem]; first | done | omega)) only [go_sem]
  refine ACalls.lit (i := H.length) (by first | exact at0 (by simp) | exact at1 (by simp) | exact at2 (by simp) | exact at3 (by simp) | exact at4 (by simp) | exact at5 (by simp) | exact atG 6 (by simp) rfl | exact atG 7 (by simp) rfl | exact atG 8 (by simp) rfl | exact atG 9 (by simp) rfl | exact atG 10 (by simp) rfl | assumption) (by simp [pureL, AC.pure]) (args' := [.c (.lst 1 ([bnF a step, bnF b step].map encI))]) (by simp [AV.frz1, AC.frz, encI]) (first_a [bnF a step, bnF b step] (by simp) ?_)
  simp (disch := first | omega | (simp only [go_sem]; first | done | omega)) only [go_sem]
  refine acond_d (fun h1 => ?_) (fun h1 => ?_)
  rotate_left
  · simp (disch := first | omega | (simp only [go_sem]; first | done | omega)) only [go_sem]
    rw [show mergeRes a b step = ([], firstE [bnF a step, bnF b step]) by simp [mergeRes, h1]] at hk
    exact Ret.nilT hH (Nat.le_refl _) rfl hk
  obtain ⟨ha, hb⟩ := firstE_two h1
  obtain ⟨hs, _, hra⟩ := bnF_ok ha
  obtain ⟨_, _, hrb⟩ := bnF_ok hb
  have hr : ∀ x ∈ a ++ b, x.right := fun x hx => by
    rcases List.mem_append.1 hx with h | h
    · exact hra x h
    · exact hrb x h
  have hlen : (a ++ b).length < 20 := by simp; omega
  have hbd : ∀ x ∈ isortB (a ++ b), x.bd 5000000000000 := fun x hx => (hr x (isortB_mem _ _ hx)).bd
  have hml : (isortB (a ++ b)).length ≤ 100000 := by rw [isortB_len]; omega
  rw [show mergeRes a b step = mergeB a b by simp [mergeRes, h1]] at hk
  simp (disch := first | omega | (simp only [go_sem]; first | done | omega)) only [go_sem]
  refine ACalls.lit (i := H.length + 1) (by first | exact at0 (by simp) | exact at1 (by simp) | exact at2 (by simp) | exact at3 (by simp) | exact at4 (by simp) | exact at5 (by simp) | exact atG 6 (by simp) rfl | exact atG 7 (by simp) rfl | exact atG 8 (by simp) rfl | exact atG 9 (by simp) rfl | exact atG 10 (by simp) rfl | assumption) (by simp [pureL, AC.pure]) (args' := [.c (.lst 1 [[.lst 6 (a.map encN)], [.lst 6 (b.map encN)]])]) (by simp [AV.frz1, AC.frz]) (concatN_a a b (by omega) (by omega) ?_)
  simp (disch := first | omega | (simp only [go_sem]; first | done | omega)) only [go_sem]
  refine sortGr_a _ (fun x y => if x.a < y.a then -1 else if y.a < x.a then 1 else 0) (fun x => True) (by kernel_rfl) (fun x y _ _ => cmp_lt x.a y.a) (fun x y H K _ _ h => cmp1_a x y h) (a ++ b) (by first | exact at0 (by simp) | exact at1 (by simp) | exact at2 (by simp) | exact at3 (by simp) | exact at4 (by simp) | exact at5 (by simp) | exact atG 6 (by simp) rfl | exact atG 7 (by simp) rfl | exact atG 8 (by simp) rfl | exact atG 9 (by simp) rfl | exact atG 10 (by simp) rfl | assumption) (fun _ _ => trivial) hlen ?_
  simp (disch := first | omega | (simp only [go_sem]; first | done | omega)) only [go_sem]
  have hlen2 := isortB_len (a ++ b)
  refine AWp.loop (H.length + 3) [31, 32] [33, 10] (fun (k : Nat) => k ≤ (isortB (a ++ b)).length) (fun (k : Nat) => [(33, (.c (.int .i64 k))), (10, .c (grV (H.length + 3) (foldB ((isortB (a ++ b)).take k))))]) (fun (k : Nat) => H ++ [.dead, .dead, grO 62 6 ((isortB (a ++ b)).map encN), grO 62 6 ((foldB ((isortB (a ++ b)).take k)).map encN)]) (fun (k : Nat) => (isortB (a ++ b)).length - k) (by kernel_rfl) (fun _ => rfl) (by kernel_rfl) (by simp) (by first | (simp; done) | (simp; omega)) (by (try simp only [List.forall_mem_cons, List.not_mem_nil, false_implies, implies_true, and_true]); (try simp (disch := first | omega | (simp only [go_sem]; first | done | omega)) only [go_sem]); first | trivial | (simp [AV.ok, AV.ok1, AC.ok]; done) | (simp [AV.ok, AV.ok1, AC.ok]; omega) | ((repeat' apply And.intro) <;> first | trivial | (simp [AV.ok, AV.ok1, AC.ok]; done) | (simp [AV.ok, AV.ok1, AC.ok]; omega) | (refine grV_ok ?_ _; first | (simp; done) | (simp; omega) | omega))) ?_ (fun k hkb _ _ => ?_)
  · refine Next.mk 0 (by simp) ?_
    simp (disch := first | omega | (simp only [go_sem]; first | done | omega)) only [go_sem]
    exact WkL.padP [_, _, _] (by simp)
  obtain ⟨f1, f2⟩ := fold_take hbd hml k
  have hlen3 : (isortB (a ++ b)).length = a.length + b.length := by rw [hlen2, List.length_append]
  by_cases hlt : k < (isortB (a ++ b)).length
  · have hx := hbd _ (List.getElem_mem hlt)
    have hn := fold_next hlt
    have hlt2 : k < a.length + b.length := by omega
    simp (disch := first | omega | (simp only [go_sem]; first | done | omega)) only [go_sem]
    refine put_gr (H.length + 3) (foldB ((isortB (a ++ b)).take k)) (isortB (a ++ b))[k] (by first | exact at0 (by simp) | exact at1 (by simp) | exact at2 (by simp) | exact at3 (by simp) | exact at4 (by simp) | exact at5 (by simp) | exact atG 6 (by simp) rfl | exact atG 7 (by simp) rfl | exact atG 8 (by simp) rfl | exact atG 9 (by simp) rfl | exact atG 10 (by simp) rfl | assumption) (by omega) f1 (by simp only [Bin.bd] at hx ⊢; omega) ?_
    simp (disch := first | omega | (simp only [go_sem]; first | done | omega)) only [go_sem]
    rw [← hn]
    exact Next.mk (k + 1) ⟨by omega, by omega⟩ (by ((try simp (disch := first | omega | (simp only [go_sem]; first | done | omega)) only [go_sem]); first | (refine WkL.pickAt [_, _, _] [0] (by first | assumption | exact HOk.str (by assumption)) (by first | (simp [AObj.okN]; done) | (simp only [List.forall_mem_cons, List.not_mem_nil, false_implies, implies_true, and_true]; (repeat' apply And.intro) <;> first | trivial | exact okN_grO (fun x => by simp [go_sem, AC.pure]) | exact okN_map (fun x => by simp [go_sem, AC.pure]) | (simp [AObj.okN, AC.ok]; done))) (by first | (simp; done) | (simp; omega)) rfl (by simp) (by first | (simp [pureO_gr, AObj.pureO, pureL, go_sem, AC.pure]; done) | (simp only [List.all_cons, List.all_nil, Bool.and_true]; exact pureO_gr (pureL_map _ (fun x => by simp [go_sem, AC.pure])))) (by (try simp only [List.map_cons, List.map_nil, av_ren_gr]); first | (simp [AV.ren, AV.ren1, AC.ren, pickS]; done) | (simp [AV.ren, AV.ren1, AC.ren, pickS]; omega)) (by simp only [List.forall_mem_cons, List.not_mem_nil, false_implies, implies_true, and_true]; (repeat' apply And.intro) <;> first | exact grV_ok (by simp) _ | (simp [AV.ok, AV.ok1, AC.ok]; done) | (simp [AV.ok, AV.ok1, AC.ok]; omega))) | (refine WkL.pickAt [_, _, _] [1] (by first | assumption | exact HOk.str (by assumption)) (by first | (simp [AObj.okN]; done) | (simp only [List.forall_mem_cons, List.not_mem_nil, false_implies, implies_true, and_true]; (repeat' apply And.intro) <;> first | trivial | exact okN_grO (fun x => by simp [go_sem, AC.pure]) | exact okN_map (fun x => by simp [go_sem, AC.pure]) | (simp [AObj.okN, AC.ok]; done))) (by first | (simp; done) | (simp; omega)) rfl (by simp) (by first | (simp [pureO_gr, AObj.pureO, pureL, go_sem, AC.pure]; done) | (simp only [List.all_cons, List.all_nil, Bool.and_true]; exact pureO_gr (pureL_map _ (fun x => by simp [go_sem, AC.pure])))) (by (try simp only [List.map_cons, List.map_nil, av_ren_gr]); first | (simp [AV.ren, AV.ren1, AC.ren, pickS]; done) | (simp [AV.ren, AV.ren1, AC.ren, pickS]; omega)) (by simp only [List.forall_mem_cons, List.not_mem_nil, false_implies, implies_true, and_true]; (repeat' apply And.intro) <;> first | exact grV_ok (by simp) _ | (simp [AV.ok, AV.ok1, AC.ok]; done) | (simp [AV.ok, AV.ok1, AC.ok]; omega))) | (refine WkL.pickAt [_, _, _] [2] (by first | assumption | exact HOk.str (by assumption)) (by first | (simp [AObj.okN]; done) | (simp only [List.forall_mem_cons, List.not_mem_nil, false_implies, implies_true, and_true]; (repeat' apply And.intro) <;> first | trivial | exact okN_grO (fun x => by simp [go_sem, AC.pure]) | exact okN_map (fun x => by simp [go_sem, AC.pure]) | (simp [AObj.okN, AC.ok]; done))) (by first | (simp; done) | (simp; omega)) rfl (by simp) (by first | (simp [pureO_gr, AObj.pureO, pureL, go_sem, AC.pure]; done) | (simp only [List.all_cons, List.all_nil, Bool.and_true]; exact pureO_gr (pureL_map _ (fun x => by simp [go_sem, AC.pure])))) (by (try simp only [List.map_cons, List.map_nil, av_ren_gr]); first | (simp [AV.ren, AV.ren1, AC.ren, pickS]; done) | (simp [AV.ren, AV.ren1, AC.ren, pickS]; omega)) (by simp only [List.forall_mem_cons, List.not_mem_nil, false_implies, implies_true, and_true]; (repeat' apply And.intro) <;> first | exact grV_ok (by simp) _ | (simp [AV.ok, AV.ok1, AC.ok]; done) | (simp [AV.ok, AV.ok1, AC.ok]; omega))) | (refine WkL.pickAt [_, _, _] [3] (by first | assumption | exact HOk.str (by assumption)) (by first | (simp [AObj.okN]; done) | (simp only [List.forall_mem_cons, List.not_mem_nil, false_implies, implies_true, and_true]; (repeat' apply And.intro) <;> first | trivial | exact okN_grO (fun x => by simp [go_sem, AC.pure]) | exact okN_map (fun x => by simp [go_sem, AC.pure]) | (simp [AObj.okN, AC.ok]; done))) (by first | (simp; done) | (simp; omega)) rfl (by simp) (by first | (simp [pureO_gr, AObj.pureO, pureL, go_sem, AC.pure]; done) | (simp only [List.all_cons, List.all_nil, Bool.and_true]; exact pureO_gr (pureL_map _ (fun x => by simp [go_sem, AC.pure])))) (by (try simp only [List.map_cons, List.map_nil, av_ren_gr]); first | (simp [AV.ren, AV.ren1, AC.ren, pickS]; done) | (simp [AV.ren, AV.ren1, AC.ren, pickS]; omega)) (by simp only [List.forall_mem_cons, List.not_mem_nil, false_implies, implies_true, and_true]; (repeat' apply And.intro) <;> first | exact grV_ok (by simp) _ | (simp [AV.ok, AV.ok1, AC.ok]; done) | (simp [AV.ok, AV.ok1, AC.ok]; omega))) | (refine WkL.pickAt [_, _, _] [4] (by first | assumption | exact HOk.str (by assumption)) (by first | (simp [AObj.okN]; done) | (simp only [List.forall_mem_cons, List.not_mem_nil, false_implies, implies_true, and_true]; (repeat' apply And.intro) <;> first | trivial | exact okN_grO (fun x => by simp [go_sem, AC.pure]) | exact okN_map (fun x => by simp [go_sem, AC.pure]) | (simp [AObj.okN, AC.ok]; done))) (by first | (simp; done) | (simp; omega)) rfl (by simp) (by first | (simp [pureO_gr, AObj.pureO, pureL, go_sem, AC.pure]; done) | (simp only [List.all_cons, List.all_nil, Bool.and_true]; exact pureO_gr (pureL_map _ (fun x => by simp [go_sem, AC.pure])))) (by (try simp only [List.map_cons, List.map_nil, av_ren_gr]); first | (simp [AV.ren, AV.ren1, AC.ren, pickS]; done) | (simp [AV.ren, AV.ren1, AC.ren, pickS]; omega)) (by simp only [List.forall_mem_cons, List.not_mem_nil, false_implies, implies_true, and_true]; (repeat' apply And.intro) <;> first | exact grV_ok (by simp) _ | (simp [AV.ok, AV.ok1, AC.ok]; done) | (simp [AV.ok, AV.ok1, AC.ok]; omega))) | (refine WkL.pickAt [_, _, _] [5] (by first | assumption | exact HOk.str (by assumption)) (by first | (simp [AObj.okN]; done) | (simp only [List.forall_mem_cons, List.not_mem_nil, false_implies, implies_true, and_true]; (repeat' apply And.intro) <;> first | trivial | exact okN_grO (fun x => by simp [go_sem, AC.pure]) | exact okN_map (fun x => by simp [go_sem, AC.pure]) | (simp [AObj.okN, AC.ok]; done))) (by first | (simp; done) | (simp; omega)) rfl (by simp) (by first | (simp [pureO_gr, AObj.pureO, pureL, go_sem, AC.pure]; done) | (simp only [List.all_cons, List.all_nil, Bool.and_true]; exact pureO_gr (pureL_map _ (fun x => by simp [go_sem, AC.pure])))) (by (try simp only [List.map_cons, List.map_nil, av_ren_gr]); first | (simp [AV.ren, AV.ren1, AC.ren, pickS]; done) | (simp [AV.ren, AV.ren1, AC.ren, pickS]; omega)) (by simp only [List.forall_mem_cons, List.not_mem_nil, false_implies, implies_true, and_true]; (repeat' apply And.intro) <;> first | exact grV_ok (by simp) _ | (simp [AV.ok, AV.ok1, AC.ok]; done) | (simp [AV.ok, AV.ok1, AC.ok]; omega))) | (refine WkL.pickAt [_, _, _] [6] (by first | assumption | exact HOk.str (by assumption)) (by first | (simp [AObj.okN]; done) | (simp only [List.forall_mem_cons, List.not_mem_nil, false_implies, implies_true, and_true]; (repeat' apply And.intro) <;> first | trivial | exact okN_grO (fun x => by simp [go_sem, AC.pure]) | exact okN_map (fun x => by simp [go_sem, AC.pure]) | (simp [AObj.okN, AC.ok]; done))) (by first | (simp; done) | (simp; omega)) rfl (by simp) (by first | (simp [pureO_gr, AObj.pureO, pureL, go_sem, AC.pure]; done) | (simp only [List.all_cons, List.all_nil, Bool.and_true]; exact pureO_gr (pureL_map _ (fun x => by simp [go_sem, AC.pure])))) (by (try simp only [List.map_cons, List.map_nil, av_ren_gr]); first | (simp [AV.ren, AV.ren1, AC.ren, pickS]; done) | (simp [AV.ren, AV.ren1, AC.ren, pickS]; omega)) (by simp only [List.forall_mem_cons, List.not_mem_nil, false_implies, implies_true, and_true]; (repeat' apply And.intro) <;> first | exact grV_ok (by simp) _ | (simp [AV.ok, AV.ok1, AC.ok]; done) | (simp [AV.ok, AV.ok1, AC.ok]; omega))) | (refine WkL.pickAt [_, _, _] [7] (by first | assumption | exact HOk.str (by assumption)) (by first | (simp [AObj.okN]; done) | (simp only [List.forall_mem_cons, List.not_mem_nil, false_implies, implies_true, and_true]; (repeat' apply And.intro) <;> first | trivial | exact okN_grO (fun x => by simp [go_sem, AC.pure]) | exact okN_map (fun x => by simp [go_sem, AC.pure]) | (simp [AObj.okN, AC.ok]; done))) (by first | (simp; done) | (simp; omega)) rfl (by simp) (by first | (simp [pureO_gr, AObj.pureO, pureL, go_sem, AC.pure]; done) | (simp only [List.all_cons, List.all_nil, Bool.and_true]; exact pureO_gr (pureL_map _ (fun x => by simp [go_sem, AC.pure])))) (by (try simp only [List.map_cons, List.map_nil, av_ren_gr]); first | (simp [AV.ren, AV.ren1, AC.ren, pickS]; done) | (simp [AV.ren, AV.ren1, AC.ren, pickS]; omega)) (by simp only [List.forall_mem_cons, List.not_mem_nil, false_implies, implies_true, and_true]; (repeat' apply And.intro) <;> first | exact grV_ok (by simp) _ | (simp [AV.ok, AV.ok1, AC.ok]; done) | (simp [AV.ok, AV.ok1, AC.ok]; omega)))))
  · rw [List.take_of_length_le (by omega)] at f1 f2 ⊢
    simp (disch := first | omega | (simp only [go_sem]; first | done | omega)) only [go_sem]
    refine fitsGr_a _ (by first | exact at0 (by simp) | exact at1 (by simp) | exact at2 (by simp) | exact at3 (by simp) | exact at4 (by simp) | exact at5 (by simp) | exact atG 6 (by simp) rfl | exact atG 7 (by simp) rfl | exact atG 8 (by simp) rfl | exact atG 9 (by simp) rfl | exact atG 10 (by simp) rfl | assumption) (by omega) ?_
    simp (disch := first | omega | (simp only [go_sem]; first | done | omega)) only [go_sem]
    have e : mergeB a b = if fitsE (foldB (isortB (a ++ b))) ≠ 0 then ([], 2) else (foldB (isortB (a ++ b)), 0) := rfl
    refine acond_d (fun h4 => ?_) (fun h4 => ?_)
    · simp (disch := first | omega | (simp only [go_sem]; first | done | omega)) only [go_sem]
      rw [e, if_neg (not_not_intro h4)] at hk
      exact Ret.frzGrT 3 hH (Nat.le_refl _) rfl (pureL_encN _) rfl (map_grV _ _ _).symm hk
    · simp (disch := first | omega | (simp only [go_sem]; first | done | omega)) only [go_sem]
      rw [e, if_pos h4] at hk
      rw [fitsE_two _ h4]
      exact Ret.nilT hH (Nat.le_refl _) rfl hk
end Go.Proofs.Ytfhadgemgfpdbaa
