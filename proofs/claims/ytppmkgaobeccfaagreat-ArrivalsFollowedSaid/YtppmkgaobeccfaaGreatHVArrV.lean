/- ArrivalsOf: the document's answer. Condition: right lists; at most 20 arrivals. -/
import Derived.Test.YtppmkgaobeccfaaGreatHVArrS
import Derived.Test.YtppmkgaobeccfaaGreatHVArrT
namespace Go.Proofs.YtppmkgaobeccfaaGreat
open Go Go.RowKit
set_option maxRecDepth 100000
set_option linter.all false
set_option maxHeartbeats 2000000
variable {H : Hp} {K : AV → Hp → Prop}
theorem pdq12Ar_a (f : FuncId) (cf : Arr → Arr → Int) (lt : Arr → Arr → Bool) (P : Arr → Prop) (he : entersB Tryz.prog f = true) (hc : ∀ x y, P x → P y → (cf x y < 0 ↔ lt x y = true)) (hf : ∀ (x y : Arr) (H : Hp) (K : AV → Hp → Prop), P x → P y → K (.c (.int .i64 (cf x y))) H → ACalls Tryz.prog f [.agg (encAr x), .agg (encAr y)] H K)
    {i n : Nat} (lim : Int) (l : List Arr) (hi : H[i]? = some (.row 61 7 (l.map encAr) true)) (hn : n = l.length) (hP : ∀ x ∈ l, P x) (hlen : l.length ≤ 12) (hk : K (.tup []) (H.set i (.row 61 7 ((isortG lt l).map encAr) true))) :
    ACalls Tryz.prog 147 [.c (.sl (some (i, 0)) n), (.c (.int .i64 0)), (.c (.int .i64 n)), (.c (.int .i64 lim)), .c (.fn f [] [])] H K := by
  subst hn
  have hlt := getElem?_lt hi
  refine acalls Tryz.func147 rfl (by kernel_rfl) (by simp (disch := first | omega | (simp only [go_sem]; first | done | omega)) only [go_sem]) (fun hH => ?_)
  simp (disch := first | omega | (simp only [go_sem]; first | done | omega)) only [go_sem]
  refine AWp.loop (H.length) [0, 4] [1, 2, 3, 10, 11] (fun (q : Unit) => True) (fun (q : Unit) => [(1, (.c (.int .i64 0))), (2, (.c (.int .i64 (l.length)))), (3, (.c (.int .i64 lim))), (10, (.c (.bool true))), (11, (.c (.bool true)))]) (fun (q : Unit) => H) (fun (q : Unit) => 0) (by kernel_rfl) (fun _ => rfl) (by kernel_rfl) (by first | (simp; done) | omega) (by first | (simp; done) | (simp; omega) | omega) (by (try simp only [List.forall_mem_cons, List.not_mem_nil, false_implies, implies_true, and_true]); (try simp (disch := first | omega | (simp only [go_sem]; first | done | omega)) only [go_sem]); all_goals first | trivial | (simp [AV.ok, AV.ok1, AC.ok]; done) | (simp [AV.ok, AV.ok1, AC.ok]; omega) | (simp [AV.ok, AV.ok1, AC.ok]; assumption) | ((repeat' apply And.intro) <;> first | trivial | (simp [AV.ok, AV.ok1, AC.ok]; done) | (simp [AV.ok, AV.ok1, AC.ok]; omega) | (simp [AV.ok, AV.ok1, AC.ok]; assumption) | (refine grV_ok ?_ _; first | (simp; done) | (simp; omega) | omega))) ?_ (fun q hq _ _ => ?_)
  · exact Next.mk () trivial (by (try simp (disch := first | omega | (simp only [go_sem]; first | done | omega)) only [go_sem]); (first | refine WkL.eq ?_ ?_ | refine WkL.rest (by assumption) ?_ ?_ ?_ | refine WkL.keepL (by assumption) rfl ?_ ?_ ?_ ?_) <;> first | rfl | (simp; done) | (simp; omega) | (simp only [List.cons.injEq, AV.c.injEq, AC.int.injEq, AC.bool.injEq, AC.str.injEq, and_true, true_and, Int.natCast_add, Int.natCast_one, Int.cast_ofNat_Int]; omega) | (simp [AV.ok, AV.ok1, AC.ok]; done) | (simp [AV.ok, AV.ok1, AC.ok]; omega) | (simp only [List.forall_mem_cons, List.not_mem_nil, false_implies, implies_true, and_true]; (repeat' apply And.intro) <;> first | exact okN_map (fun x => by simp [go_sem, AC.pure]) | exact okN_grO (fun x => by simp [go_sem, AC.pure]) | (simp [AObj.okN, AC.ok]; done) | (simp [AObj.okN, AC.ok]; omega)) | (simp [*]; done) | grind)
  simp (disch := first | omega | (simp only [go_sem]; first | done | omega)) only [go_sem]
  refine insertionAr_a f cf lt P he hc hf l hi rfl hP (by omega) ?_
  simp (disch := first | omega | (simp only [go_sem]; first | done | omega)) only [go_sem]
  exact Ret.same (by simp) hk
theorem insNil12Ar_a (f : FuncId) (hk : K (.tup []) H) : ACalls Tryz.prog 172 [.c (.sl none 0), (.c (.int .i64 0)), (.c (.int .i64 0)), .c (.fn f [] [])] H K := by
  refine acalls Tryz.func172 rfl (by kernel_rfl) (by simp (disch := first | omega | (simp only [go_sem]; first | done | omega)) only [go_sem]) (fun hH => ?_)
  simp (disch := first | omega | (simp only [go_sem]; first | done | omega)) only [go_sem]
  refine AWp.loop (H.length) [0, 1, 2, 3] [8] (fun (q : Unit) => True) (fun (q : Unit) => [(8, (.c (.int .i64 1)))]) (fun (q : Unit) => H) (fun (q : Unit) => 0) (by kernel_rfl) (fun _ => rfl) (by kernel_rfl) (by first | (simp; done) | omega) (by first | (simp; done) | (simp; omega) | omega) (by (try simp only [List.forall_mem_cons, List.not_mem_nil, false_implies, implies_true, and_true]); (try simp (disch := first | omega | (simp only [go_sem]; first | done | omega)) only [go_sem]); all_goals first | trivial | (simp [AV.ok, AV.ok1, AC.ok]; done) | (simp [AV.ok, AV.ok1, AC.ok]; omega) | (simp [AV.ok, AV.ok1, AC.ok]; assumption) | ((repeat' apply And.intro) <;> first | trivial | (simp [AV.ok, AV.ok1, AC.ok]; done) | (simp [AV.ok, AV.ok1, AC.ok]; omega) | (simp [AV.ok, AV.ok1, AC.ok]; assumption) | (refine grV_ok ?_ _; first | (simp; done) | (simp; omega) | omega))) ?_ (fun q hq _ _ => ?_)
  · exact Next.mk () trivial (by (try simp (disch := first | omega | (simp only [go_sem]; first | done | omega)) only [go_sem]); (first | refine WkL.eq ?_ ?_ | refine WkL.rest (by assumption) ?_ ?_ ?_ | refine WkL.keepL (by assumption) rfl ?_ ?_ ?_ ?_) <;> first | rfl | (simp; done) | (simp; omega) | (simp only [List.cons.injEq, AV.c.injEq, AC.int.injEq, AC.bool.injEq, AC.str.injEq, and_true, true_and, Int.natCast_add, Int.natCast_one, Int.cast_ofNat_Int]; omega) | (simp [AV.ok, AV.ok1, AC.ok]; done) | (simp [AV.ok, AV.ok1, AC.ok]; omega) | (simp only [List.forall_mem_cons, List.not_mem_nil, false_implies, implies_true, and_true]; (repeat' apply And.intro) <;> first | exact okN_map (fun x => by simp [go_sem, AC.pure]) | exact okN_grO (fun x => by simp [go_sem, AC.pure]) | (simp [AObj.okN, AC.ok]; done) | (simp [AObj.okN, AC.ok]; omega)) | (simp [*]; done) | grind)
  simp (disch := first | omega | (simp only [go_sem]; first | done | omega)) only [go_sem]
  exact Ret.same (by simp) hk
theorem pdqNil12Ar_a (f : FuncId) (lim : Int) (hk : K (.tup []) H) : ACalls Tryz.prog 147 [.c (.sl none 0), (.c (.int .i64 0)), (.c (.int .i64 0)), (.c (.int .i64 lim)), .c (.fn f [] [])] H K := by
  refine acalls Tryz.func147 rfl (by kernel_rfl) (by simp (disch := first | omega | (simp only [go_sem]; first | done | omega)) only [go_sem]) (fun hH => ?_)
  simp (disch := first | omega | (simp only [go_sem]; first | done | omega)) only [go_sem]
  refine AWp.loop (H.length) [0, 4] [1, 2, 3, 10, 11] (fun (q : Unit) => True) (fun (q : Unit) => [(1, (.c (.int .i64 0))), (2, (.c (.int .i64 0))), (3, (.c (.int .i64 lim))), (10, (.c (.bool true))), (11, (.c (.bool true)))]) (fun (q : Unit) => H) (fun (q : Unit) => 0) (by kernel_rfl) (fun _ => rfl) (by kernel_rfl) (by first | (simp; done) | omega) (by first | (simp; done) | (simp; omega) | omega) (by (try simp only [List.forall_mem_cons, List.not_mem_nil, false_implies, implies_true, and_true]); (try simp (disch := first | omega | (simp only [go_sem]; first | done | omega)) only [go_sem]); all_goals first | trivial | (simp [AV.ok, AV.ok1, AC.ok]; done) | (simp [AV.ok, AV.ok1, AC.ok]; omega) | (simp [AV.ok, AV.ok1, AC.ok]; assumption) | ((repeat' apply And.intro) <;> first | trivial | (simp [AV.ok, AV.ok1, AC.ok]; done) | (simp [AV.ok, AV.ok1, AC.ok]; omega) | (simp [AV.ok, AV.ok1, AC.ok]; assumption) | (refine grV_ok ?_ _; first | (simp; done) | (simp; omega) | omega))) ?_ (fun q hq _ _ => ?_)
  · exact Next.mk () trivial (by (try simp (disch := first | omega | (simp only [go_sem]; first | done | omega)) only [go_sem]); (first | refine WkL.eq ?_ ?_ | refine WkL.rest (by assumption) ?_ ?_ ?_ | refine WkL.keepL (by assumption) rfl ?_ ?_ ?_ ?_) <;> first | rfl | (simp; done) | (simp; omega) | (simp only [List.cons.injEq, AV.c.injEq, AC.int.injEq, AC.bool.injEq, AC.str.injEq, and_true, true_and, Int.natCast_add, Int.natCast_one, Int.cast_ofNat_Int]; omega) | (simp [AV.ok, AV.ok1, AC.ok]; done) | (simp [AV.ok, AV.ok1, AC.ok]; omega) | (simp only [List.forall_mem_cons, List.not_mem_nil, false_implies, implies_true, and_true]; (repeat' apply And.intro) <;> first | exact okN_map (fun x => by simp [go_sem, AC.pure]) | exact okN_grO (fun x => by simp [go_sem, AC.pure]) | (simp [AObj.okN, AC.ok]; done) | (simp [AObj.okN, AC.ok]; omega)) | (simp [*]; done) | grind)
  simp (disch := first | omega | (simp only [go_sem]; first | done | omega)) only [go_sem]
  refine insNil12Ar_a f ?_
  simp (disch := first | omega | (simp only [go_sem]; first | done | omega)) only [go_sem]
  exact Ret.same (by simp) hk
theorem lenq64Ar_a (n : Nat) (hn : n ≤ 12) (hk : ∀ r : Int, K (.c (.int .i64 r)) H) : ACalls Tryz.prog 184 [.c (.int .u64 n)] H K := by
  have hn' : n = 0 ∨ n = 1 ∨ n = 2 ∨ n = 3 ∨ n = 4 ∨ n = 5 ∨ n = 6 ∨ n = 7 ∨ n = 8 ∨ n = 9 ∨ n = 10 ∨ n = 11 ∨ n = 12 := by omega
  obtain ⟨r, hr⟩ : ∃ r : Int, r = ([0, 1, 2, 2, 3, 3, 3, 3, 4, 4, 4, 4, 4] : List Int).getD n 0 := ⟨_, rfl⟩
  refine acalls Tryz.func184 rfl (by kernel_rfl) (by simp (disch := first | omega | (simp only [go_sem]; first | done | omega)) only [go_sem]) (fun hH => ?_)
  simp (disch := first | omega | (simp only [go_sem]; first | done | omega)) only [go_sem]
  refine aIf_valS (v' := .c (.int .u8 r)) ?_ ?_ ?_
  · rcases hn' with rfl | rfl | rfl | rfl | rfl | rfl | rfl | rfl | rfl | rfl | rfl | rfl | rfl <;> decide +kernel
  · subst hr
    rcases hn' with rfl | rfl | rfl | rfl | rfl | rfl | rfl | rfl | rfl | rfl | rfl | rfl | rfl <;> exact congrArg (fun z => AV.c (.int .u8 z)) (by decide +kernel)
  simp (disch := first | omega | (simp only [go_sem]; first | done | omega)) only [go_sem]
  exact Ret.same (Nat.le_refl _) (hk _)
theorem lenqAr_a (n : Nat) (hn : n ≤ 12) (hk : ∀ r : Int, K (.c (.int .i64 r)) H) : ACalls Tryz.prog 137 [.c (.int .u64 n)] H K := by
  refine acalls Tryz.func137 rfl (by kernel_rfl) (by simp (disch := first | omega | (simp only [go_sem]; first | done | omega)) only [go_sem]) (fun hH => ?_)
  simp (disch := first | omega | (simp only [go_sem]; first | done | omega)) only [go_sem]
  refine lenq64Ar_a n hn (fun r => ?_)
  simp (disch := first | omega | (simp only [go_sem]; first | done | omega)) only [go_sem]
  exact Ret.same (Nat.le_refl _) (hk r)
theorem sort12Ar_a (f : FuncId) (cf : Arr → Arr → Int) (lt : Arr → Arr → Bool) (P : Arr → Prop) (he : entersB Tryz.prog f = true) (hc : ∀ x y, P x → P y → (cf x y < 0 ↔ lt x y = true)) (hf : ∀ (x y : Arr) (H : Hp) (K : AV → Hp → Prop), P x → P y → K (.c (.int .i64 (cf x y))) H → ACalls Tryz.prog f [.agg (encAr x), .agg (encAr y)] H K)
    {i : Nat} (l : List Arr) (hi : H[i]? = some (grO 61 7 (l.map encAr))) (hP : ∀ x ∈ l, P x) (hlen : l.length ≤ 12) (hk : K (.tup []) (H.set i (grO 61 7 ((isortG lt l).map encAr)))) :
    ACalls Tryz.prog 97 [.c (grV i l), .c (.fn f [] [])] H K := by
  by_cases h : l = []
  · subst h
    have hk : K (.tup []) (H.set i .dead) := hk
    rw [set_same (o := .dead) hi] at hk
    simp only [grV]
    refine acalls Tryz.func97 rfl (by kernel_rfl) (by simp (disch := first | omega | (simp only [go_sem]; first | done | omega)) only [go_sem]) (fun hH => ?_)
    simp (disch := first | omega | (simp only [go_sem]; first | done | omega)) only [go_sem]
    have hw : IntKind.u64.wrap 0 = ((0 : Nat) : Int) := by decide
    try rw [hw]
    refine lenqAr_a 0 (by omega) (fun r => ?_)
    simp (disch := first | omega | (simp only [go_sem]; first | done | omega)) only [go_sem]
    refine pdqNil12Ar_a f r ?_
    simp (disch := first | omega | (simp only [go_sem]; first | done | omega)) only [go_sem]
    exact Ret.same (by simp) hk
  · have h2 : l.map encAr ≠ [] := by simpa using h
    have h3 : (isortG lt l).map encAr ≠ [] := by intro h4; have := congrArg List.length h4; simp [isortG_len] at this; exact h this
    rw [grO_pos _ _ h2] at hi
    rw [grO_pos _ _ h3] at hk
    rw [grV_pos _ h]
    refine acalls Tryz.func97 rfl (by kernel_rfl) (by simp (disch := first | omega | (simp only [go_sem]; first | done | omega)) only [go_sem]) (fun hH => ?_)
    simp (disch := first | omega | (simp only [go_sem]; first | done | omega)) only [go_sem]
    have hw : IntKind.u64.wrap (l.length : Int) = l.length := by
      have : ∀ m : Fin 13, IntKind.u64.wrap (m.val : Int) = m.val := by decide
      exact this ⟨l.length, by omega⟩
    try rw [hw]
    refine lenqAr_a l.length hlen (fun r => ?_)
    simp (disch := first | omega | (simp only [go_sem]; first | done | omega)) only [go_sem]
    refine pdq12Ar_a f cf lt P he hc hf r l hi rfl hP hlen ?_
    simp (disch := first | omega | (simp only [go_sem]; first | done | omega)) only [go_sem]
    exact Ret.same (by simp) hk
theorem swoAr : Go.Sort.SWO (ltOf fun x y : {x // arOk x} => arrC x.1 y.1) where
  irrefl := fun x => arLt_irrefl x.1
  trans := fun x y z h1 h2 => arLt_trans x.1 y.1 z.1 h1 h2
  ntrans := fun x y z h1 h2 => arLt_ntrans x.1 y.1 z.1 h1 h2
theorem sortAr_a {i : Nat} (l : List Arr) (hi : H[i]? = some (grO 61 7 (l.map encAr))) (hP : ∀ x ∈ l, arOk x) (hlen : l.length ≤ 1000000)
    (hk : ∀ l' : List Arr, l'.Perm l → l'.Pairwise (fun x y => ¬ arrC y x < 0) → K (.tup []) (H.set i (grO 61 7 (l'.map encAr)))) :
    ACalls Tryz.prog 97 [.c (grV i l), .c (.fn 61 [] [])] H K := by
  by_cases h : l = []
  · subst h
    exact sort12Ar_a 61 arrC arLt arOk (by kernel_rfl) (fun x y _ _ => by unfold arLt; rw [decide_eq_true_eq]) cmpOrder.hf [] hi hP (by simp) (hk [] (List.Perm.refl _) List.Pairwise.nil)
  · have h2 : l.map encAr ≠ [] := by simpa using h
    rw [grO_pos _ _ h2] at hi
    rw [grV_pos _ h]
    refine sortP_a sfLayAr (fun w => by kernel_rfl) (fun w => by kernel_rfl) encAr_flat (by omega) arOk arrC swoAr eg_order (fun x y W hx hy => arrOrdW x y W hx hy) l hi rfl h hP hlen (fun l' h3 h4 => ?_)
    have h5 : l' ≠ [] := by
      intro e
      subst e
      exact h (List.perm_nil.1 h3.symm)
    have := hk l' h3 h4
    rwa [grO_pos _ _ (by simpa using h5)] at this
theorem conflictGr_a (l : List Arr) {i : Nat} (hi : H[i]? = some (grO 61 7 (l.map encAr))) (hl : l.length ≤ 1000000) (hk : K (.c (.bool (cfF [] l))) H) : ACalls Tryz.prog 78 [.c (grV i l)] H K := by
  rw [← map_grV encAr]
  exact ACalls.lendGr (.c (.bool (cfF [] l))) hi (pureL_map _ (fun x => by simp [go_sem, AC.pure])) rfl rfl rfl (by simp) (fun G J hJ => conflictR_a l hl hJ) hk
theorem arrivalsOf_a (a b : List Arr) (hl : a.length + b.length ≤ 20) (hP : ∀ x ∈ a ++ b, arOk x)
    (hk : K (.tup [.c (.lst 7 ((mgR a b).1.map encAr)), (.c (.int .i64 ((mgR a b).2)))]) H) : ACalls Tryz.prog 34 [.c (.lst 7 (a.map encAr)), .c (.lst 7 (b.map encAr))] H K := by
  have hcc : cfF [] (mgM a b) = cfF [] (a ++ b) := cfF_congr (mgM_mem a b)
  have hil := isortG_len arLt (a ++ b)
  have hml : (mgM a b).length ≤ 20 := by
    unfold mgM
    have := cplF_le (isortG arLt (a ++ b))
    rw [hil, List.length_append] at this
    omega
  unfold mgR at hk
  rw [hcc] at hk
  refine acalls Tryz.func34 rfl (by kernel_rfl) (by simp (disch := first | omega | (simp only [go_sem]; first | done | omega)) only [go_sem]) (fun hH => ?_)
  simp (disch := first | omega | (simp only [go_sem]; first | done | omega)) only [go_sem]
  refine ACalls.lit (i := H.length) (by first | exact at0 (by simp) | exact at1 (by simp) | exact at2 (by simp) | exact at3 (by simp) | exact at4 (by simp) | exact at5 (by simp) | exact atG 6 (by simp) rfl | exact atG 7 (by simp) rfl | exact atG 8 (by simp) rfl | exact atG 9 (by simp) rfl | exact atG 10 (by simp) rfl | exact atG 11 (by simp) rfl | exact atG 12 (by simp) rfl | exact atG 13 (by simp) rfl | exact atG 14 (by simp) rfl | exact atG 15 (by simp) rfl | assumption) (by simp [pureL, AC.pure]) (args' := [.c (.lst 1 [[.lst 7 (a.map encAr)], [.lst 7 (b.map encAr)]])]) (by simp [AV.frz1, AC.frz]) (concatAr_a a b (by omega) (by omega) ?_)
  simp (disch := first | omega | (simp only [go_sem]; first | done | omega)) only [go_sem]
  refine conflictGr_a (a ++ b) (by first | exact at0 (by simp) | exact at1 (by simp) | exact at2 (by simp) | exact at3 (by simp) | exact at4 (by simp) | exact at5 (by simp) | exact atG 6 (by simp) rfl | exact atG 7 (by simp) rfl | exact atG 8 (by simp) rfl | exact atG 9 (by simp) rfl | exact atG 10 (by simp) rfl | exact atG 11 (by simp) rfl | exact atG 12 (by simp) rfl | exact atG 13 (by simp) rfl | exact atG 14 (by simp) rfl | exact atG 15 (by simp) rfl | assumption) (by rw [List.length_append]; omega) ?_
  cases hc : cfF [] (a ++ b) with
  | true =>
    rw [hc, if_pos rfl] at hk
    simp (disch := first | omega | (simp only [go_sem]; first | done | omega)) only [go_sem]
    exact Ret.nil [7, 0] (by simp) (Ret.drop hH (by simp) (show AV.ok _ (.tup [.c (.lst 7 []), (.c (.int .i64 _))]) from by simp [AV.ok, AV.ok1, AC.ok]) hk)
  | false =>
    rw [hc, if_neg (by simp)] at hk
    simp (disch := first | omega | (simp only [go_sem]; first | done | omega)) only [go_sem]
    refine sortAr_a (a ++ b) (by first | exact at0 (by simp) | exact at1 (by simp) | exact at2 (by simp) | exact at3 (by simp) | exact at4 (by simp) | exact at5 (by simp) | exact atG 6 (by simp) rfl | exact atG 7 (by simp) rfl | exact atG 8 (by simp) rfl | exact atG 9 (by simp) rfl | exact atG 10 (by simp) rfl | exact atG 11 (by simp) rfl | exact atG 12 (by simp) rfl | exact atG 13 (by simp) rfl | exact atG 14 (by simp) rfl | exact atG 15 (by simp) rfl | assumption) hP (by rw [List.length_append]; omega) (fun l' h1 h2 => ?_)
    have e := sorted_one h1 h2 hc
    subst e
    simp (disch := first | omega | (simp only [go_sem]; first | done | omega)) only [go_sem]
    rw [grV_lenA _ (a ++ b) (isortG arLt (a ++ b)) hil.symm]
    refine compactVAr_a (isortG arLt (a ++ b)) (by first | exact at0 (by simp) | exact at1 (by simp) | exact at2 (by simp) | exact at3 (by simp) | exact at4 (by simp) | exact at5 (by simp) | exact atG 6 (by simp) rfl | exact atG 7 (by simp) rfl | exact atG 8 (by simp) rfl | exact atG 9 (by simp) rfl | exact atG 10 (by simp) rfl | exact atG 11 (by simp) rfl | exact atG 12 (by simp) rfl | exact atG 13 (by simp) rfl | exact atG 14 (by simp) rfl | exact atG 15 (by simp) rfl | assumption) (by rw [hil, List.length_append]; omega) ?_
    rw [show cplF (isortG arLt (a ++ b)) = mgM a b from rfl]
    have hnl := nodes_len (mgM a b)
    generalize mgM a b = m at *
    have h1' : ¬ (2000 : Int) < m.length := by omega
    have h2 : (2000 < m.length ∨ 50 < (nodesF m).length) = (50 < (nodesF m).length) := by simp; omega
    simp only [h2] at hk
    simp (disch := first | omega | (simp only [go_sem]; first | done | omega)) only [go_sem, h1']
    repeat' (first | ((first | refine acond_d ?_ ?_ | refine acond_b ?_ ?_ | refine ag_d ?_ ?_ | refine ag_n ?_ ?_ | refine ag_bt ?_ ?_ | refine ag_bf ?_ ?_) <;> intro c <;> try simp (disch := first | omega | (simp only [go_sem]; first | done | omega)) only [go_sem, c, h1']) | ((first | refine w_draw (by kernel_rfl) (by decide +kernel) ?_ | refine nodesOf_a m (by omega) ?_) <;> try simp (disch := first | omega | (simp only [go_sem]; first | done | omega)) only [go_sem, h1']))
    · rw [if_pos (by omega)] at hk
      exact Ret.nil [7, 0] (by simp) (Ret.drop hH (by simp) (show AV.ok _ (.tup [.c (.lst 7 []), (.c (.int .i64 _))]) from by simp [AV.ok, AV.ok1, AC.ok]) hk)
    · rw [if_neg (by omega)] at hk
      exact Ret.drop hH (by simp) (by simp [AV.ok, AV.ok1, AC.ok]) hk
end Go.Proofs.YtppmkgaobeccfaaGreat
