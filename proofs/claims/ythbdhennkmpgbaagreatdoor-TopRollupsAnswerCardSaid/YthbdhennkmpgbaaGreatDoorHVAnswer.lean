/- The coarsest level that answers a query: the program, without holds. Condition: no holds, right levels. -/
import Derived.Test.YthbdhennkmpgbaaGreatDoorHVGE
import Derived.Test.YthbdhennkmpgbaaGreatDoorHVGF
namespace Go.Proofs.YthbdhennkmpgbaaGreatDoor
open Go Go.RowKit
set_option maxRecDepth 100000
set_option linter.all false
set_option maxHeartbeats 1000000
variable {H : Hp} {K : AV → Hp → Prop}
theorem indexIA_a (f : FuncId) (caps : List (Nat × Nat × Nat)) (p : Int → Bool) (he : entersB Tryz.prog f = true) (hc : ∀ (a b c : Nat), (a, b, c) ∈ caps → a < H.length) (l : List Int) (hf : ∀ (x : Int) (K : AV → Hp → Prop), x ∈ l → K (.c (.bool (p x))) H → ACalls Tryz.prog f (.c (.int .i64 x) :: caps.map fun q => .c (.ptr (some q))) H K) (hlen : l.length ≤ 1099511627776) (hk : ∀ r : Int, (0 ≤ r ↔ l.any p = true) → K (.c (.int .i64 r)) H) : ACalls Tryz.prog 65 [.c (.lst 1 (l.map encI)), .c (.fn f [] caps)] H K := by
  refine acalls Tryz.func65 rfl (by kernel_rfl) (by simp (disch := first | omega | (simp only [go_sem]; first | done | omega)) only [go_sem]) (fun hH => ?_)
  simp (disch := first | omega | (simp only [go_sem]; first | done | omega)) only [go_sem]
  refine AWp.loop (H.length) [0, 1, 7] [8] (fun (k : Nat) => k ≤ l.length ∧ ∀ j (h : j < l.length), j < k → p l[j] = false) (fun (k : Nat) => [(8, (.c (.int .i64 k)))]) (fun (k : Nat) => H) (fun (k : Nat) => l.length - k) (by kernel_rfl) (fun _ => rfl) (by kernel_rfl) (by simp) (by first | (simp; done) | (simp; omega)) (by (try simp only [List.forall_mem_cons, List.not_mem_nil, false_implies, implies_true, and_true]); (try simp (disch := first | omega | (simp only [go_sem]; first | done | omega)) only [go_sem]); all_goals first | trivial | (simp [AV.ok, AV.ok1, AC.ok]; done) | (simp [AV.ok, AV.ok1, AC.ok]; omega) | (simp [AV.ok, AV.ok1, AC.ok]; assumption) | ((repeat' apply And.intro) <;> first | trivial | (simp [AV.ok, AV.ok1, AC.ok]; done) | (simp [AV.ok, AV.ok1, AC.ok]; omega) | (simp [AV.ok, AV.ok1, AC.ok]; assumption) | (refine grV_ok ?_ _; first | (simp; done) | (simp; omega) | omega))) ?_ (fun k hk1 _ _ => ?_)
  · exact Next.mk 0 (by simp) (by (try simp (disch := first | omega | (simp only [go_sem]; first | done | omega)) only [go_sem]); (first | refine WkL.eq ?_ ?_ | refine WkL.rest (by assumption) ?_ ?_ ?_ | refine WkL.keepL (by assumption) rfl ?_ ?_ ?_ ?_) <;> first | rfl | (simp; done) | (simp; omega) | (simp only [List.cons.injEq, AV.c.injEq, AC.int.injEq, AC.bool.injEq, AC.str.injEq, and_true, true_and, Int.natCast_add, Int.natCast_one, Int.cast_ofNat_Int]; omega) | (simp [AV.ok, AV.ok1, AC.ok]; done) | (simp [AV.ok, AV.ok1, AC.ok]; omega) | (simp only [List.forall_mem_cons, List.not_mem_nil, false_implies, implies_true, and_true]; (repeat' apply And.intro) <;> first | exact okN_map (fun x => by simp [go_sem, AC.pure]) | exact okN_grO (fun x => by simp [go_sem, AC.pure]) | (simp [AObj.okN, AC.ok]; done) | (simp [AObj.okN, AC.ok]; omega)) | (simp [*]; done) | grind)
  obtain ⟨hk1, hk2⟩ := hk1
  by_cases hlt : k < l.length
  · simp (disch := first | omega | (simp only [go_sem]; first | done | omega)) only [go_sem, he]
    refine hf l[k] _ (List.getElem_mem hlt) ?_
    simp (disch := first | omega | (simp only [go_sem]; first | done | omega)) only [go_sem]
    refine acond_b (fun c => ?_) (fun c => ?_)
    · simp (disch := first | omega | (simp only [go_sem]; first | done | omega)) only [go_sem]
      refine Ret.same (Nat.le_refl _) (hk k ?_)
      simp only [Int.natCast_nonneg, List.any_eq_true, true_iff]
      exact ⟨l[k], List.getElem_mem _, c⟩
    · simp (disch := first | omega | (simp only [go_sem]; first | done | omega)) only [go_sem]
      refine Next.mk (k + 1) ⟨⟨by omega, fun j h hj => ?_⟩, by omega⟩ (by (try simp (disch := first | omega | (simp only [go_sem]; first | done | omega)) only [go_sem]); (first | refine WkL.eq ?_ ?_ | refine WkL.rest (by assumption) ?_ ?_ ?_ | refine WkL.keepL (by assumption) rfl ?_ ?_ ?_ ?_) <;> first | rfl | (simp; done) | (simp; omega) | (simp only [List.cons.injEq, AV.c.injEq, AC.int.injEq, AC.bool.injEq, AC.str.injEq, and_true, true_and, Int.natCast_add, Int.natCast_one, Int.cast_ofNat_Int]; omega) | (simp [AV.ok, AV.ok1, AC.ok]; done) | (simp [AV.ok, AV.ok1, AC.ok]; omega) | (simp only [List.forall_mem_cons, List.not_mem_nil, false_implies, implies_true, and_true]; (repeat' apply And.intro) <;> first | exact okN_map (fun x => by simp [go_sem, AC.pure]) | exact okN_grO (fun x => by simp [go_sem, AC.pure]) | (simp [AObj.okN, AC.ok]; done) | (simp [AObj.okN, AC.ok]; omega)) | (simp [*]; done) | grind)
      rcases Nat.lt_or_ge j k with h1 | h1
      · exact hk2 j h h1
      · obtain rfl : j = k := by omega
        simpa using c
  · simp (disch := first | omega | (simp only [go_sem]; first | done | omega)) only [go_sem]
    refine Ret.same (Nat.le_refl _) (hk (-1) ?_)
    have : l.any p = false := by
      rw [List.any_eq_false]
      intro x hx
      obtain ⟨j, hj, rfl⟩ := List.getElem_of_mem hx
      simpa using hk2 j hj (by omega)
    simp [this]
theorem containsIA_a (f : FuncId) (caps : List (Nat × Nat × Nat)) (p : Int → Bool) (he : entersB Tryz.prog f = true) (hc : ∀ (a b c : Nat), (a, b, c) ∈ caps → a < H.length) (l : List Int) (hf : ∀ (x : Int) (K : AV → Hp → Prop), x ∈ l → K (.c (.bool (p x))) H → ACalls Tryz.prog f (.c (.int .i64 x) :: caps.map fun q => .c (.ptr (some q))) H K) (hlen : l.length ≤ 1099511627776) (hk : K (.c (.bool (l.any p))) H) : ACalls Tryz.prog 42 [.c (.lst 1 (l.map encI)), .c (.fn f [] caps)] H K := by
  refine acalls Tryz.func42 rfl (by kernel_rfl) (by simp (disch := first | omega | (simp only [go_sem]; first | done | omega)) only [go_sem]) (fun hH => ?_)
  simp (disch := first | omega | (simp only [go_sem]; first | done | omega)) only [go_sem]
  refine indexIA_a f caps p he hc l hf hlen (fun r hr => ?_)
  simp (disch := first | omega | (simp only [go_sem]; first | done | omega)) only [go_sem]
  refine Ret.same (Nat.le_refl _) ?_
  rw [show decide (0 ≤ r) = l.any p by rw [Bool.eq_iff_iff, decide_eq_true_eq]; exact hr]
  exact hk
theorem ka1_a {i j k q ty ty2 ty3 ty4 : Nat} {o o2 o3 o4 : Bool} (x : Level) (w : Win) (m t : Int) (hi : H[i]? = some (.row ty 2 [encW w] o)) (hj : H[j]? = some (.row ty2 2 [encL x] o2)) (hq : H[k]? = some (.row ty3 1 [[.lst 6 []]] o3)) (hr : H[q]? = some (.row ty4 1 [[.int .i64 t]] o4)) (hx : x.ok) (hm : 0 ≤ m) (hm2 : m ≤ 400000000000) (hk : K (.c (.bool (decide (w.a ≤ m ∧ m < w.b) && !keepB x [] m t))) H) : ACalls Tryz.prog 43 [(.c (.int .i64 m)), .c (.ptr (some (i, 0, 0))), .c (.ptr (some (j, 0, 0))), .c (.ptr (some (k, 0, 0))), .c (.ptr (some (q, 0, 0)))] H K := by
  have hi1 := getElem?_lt hi
  have hj1 := getElem?_lt hj
  have hq1 := getElem?_lt hq
  have hr1 := getElem?_lt hr
  refine acalls Tryz.func43 rfl (by kernel_rfl) (by simp (disch := first | omega | (simp only [go_sem]; first | done | omega)) only [go_sem]) (fun hH => ?_)
  simp (disch := first | omega | (simp only [go_sem]; first | done | omega)) only [go_sem, hi, hj, hq, hr]
  refine inW2_a _ _ _ ?_
  by_cases c : w.a ≤ m ∧ m < w.b
  · rw [decide_eq_true c, Bool.true_and] at hk
    simp (disch := first | omega | (simp only [go_sem]; first | done | omega)) only [go_sem, c, hi, hj, hq, hr]
    refine keeps_a x [] m t hx (by simp) (by simp) hm hm2 ?_
    simp (disch := first | omega | (simp only [go_sem]; first | done | omega)) only [go_sem]
    exact Ret.same (Nat.le_refl _) hk
  · rw [decide_eq_false c, Bool.false_and] at hk
    simp (disch := first | omega | (simp only [go_sem]; first | done | omega)) only [go_sem, c, hi, hj, hq, hr]
    exact Ret.same (Nat.le_refl _) hk
theorem keepsAll0_a (x : Level) (w : Win) (t : Int) (hx : x.ok) (hm : 0 ≤ w.a) (hm1 : w.a < w.b) (hm2 : w.a ≤ 400000000000) (hk : K (.c (.bool (keepB x [] w.a t))) H) : ACalls Tryz.prog 18 [.agg (encL x), .c (.lst 6 []), .agg (encW w), (.c (.int .i64 t))] H K := by
  refine acalls Tryz.func18 rfl (by kernel_rfl) (by simp (disch := first | omega | (simp only [go_sem]; first | done | omega)) only [go_sem]) (fun hH => ?_)
  simp (disch := first | omega | (simp only [go_sem]; first | done | omega)) only [go_sem]
  refine AWp.rounds 0 (by kernel_rfl) ?_
  simp (disch := first | omega | (simp only [go_sem]; first | done | omega)) only [go_sem]
  refine ACalls.lit (i := H.length + 4) (ty := 3) (sz := 1) (els := [[.int .i64 w.a]]) (own := true) (by first | exact at0 (by simp) | exact at1 (by simp) | exact at2 (by simp) | exact at3 (by simp) | exact at4 (by simp) | exact at5 (by simp) | exact atG 6 (by simp) rfl | exact atG 7 (by simp) rfl | exact atG 8 (by simp) rfl | exact atG 9 (by simp) rfl | exact atG 10 (by simp) rfl | assumption) (by simp [pureL, AC.pure]) (args' := [.c (.lst 1 ([w.a].map encI)), .c (.fn 43 [] [(H.length + 2, 0, 0), (H.length, 0, 0), (H.length + 1, 0, 0), (H.length + 3, 0, 0)])]) (by simp [AV.frz1, AC.frz, encI]) (containsIA_a 43 [(H.length + 2, 0, 0), (H.length, 0, 0), (H.length + 1, 0, 0), (H.length + 3, 0, 0)] (fun m => decide (w.a ≤ m ∧ m < w.b) && !keepB x [] m t) (by kernel_rfl) (by intro a b c hm; simp at hm ⊢; omega) [w.a] (fun u K hu hK => ?_) (by simp) ?_)
  · simp only [List.mem_cons, List.not_mem_nil, or_false] at hu
    subst hu
    rw [List.set_append_right _ _ (by omega), Nat.add_sub_cancel_left] at hK ⊢
    simp only [List.set_cons_succ, List.set_cons_zero] at hK ⊢
    exact ka1_a x w w.a t (by first | exact at0 (by simp) | exact at1 (by simp) | exact at2 (by simp) | exact at3 (by simp) | exact at4 (by simp) | exact at5 (by simp) | exact atG 6 (by simp) rfl | exact atG 7 (by simp) rfl | exact atG 8 (by simp) rfl | exact atG 9 (by simp) rfl | exact atG 10 (by simp) rfl | assumption) (by first | exact at0 (by simp) | exact at1 (by simp) | exact at2 (by simp) | exact at3 (by simp) | exact at4 (by simp) | exact at5 (by simp) | exact atG 6 (by simp) rfl | exact atG 7 (by simp) rfl | exact atG 8 (by simp) rfl | exact atG 9 (by simp) rfl | exact atG 10 (by simp) rfl | assumption) (by first | exact at0 (by simp) | exact at1 (by simp) | exact at2 (by simp) | exact at3 (by simp) | exact at4 (by simp) | exact at5 (by simp) | exact atG 6 (by simp) rfl | exact atG 7 (by simp) rfl | exact atG 8 (by simp) rfl | exact atG 9 (by simp) rfl | exact atG 10 (by simp) rfl | assumption) (by first | exact at0 (by simp) | exact at1 (by simp) | exact at2 (by simp) | exact at3 (by simp) | exact at4 (by simp) | exact at5 (by simp) | exact atG 6 (by simp) rfl | exact atG 7 (by simp) rfl | exact atG 8 (by simp) rfl | exact atG 9 (by simp) rfl | exact atG 10 (by simp) rfl | assumption) hx hm hm2 hK
  · rw [show ([w.a].any fun m => decide (w.a ≤ m ∧ m < w.b) && !keepB x [] m t) = !keepB x [] w.a t by simp [hm1]]
    simp (disch := first | omega | (simp only [go_sem]; first | done | omega)) only [go_sem]
    exact Ret.drop hH (Nat.le_refl _) trivial (by simpa using hk)
theorem answer0_a (lv : List Level) (tag : ByteArray) (w : Win) (step t : Int) (hl : lvF lv = 0) (htag : tagE tag = 0) (ht : tag.size ≤ 1000) (hw0 : 0 ≤ w.a) (hw1 : w.a < w.b) (hw2 : w.b ≤ t) (ht1 : t ≤ 345686399999) (hs : isStep step) (hd1 : w.a % step = 0) (hd2 : w.b % step = 0)
    (hk : ∀ (i : Nat) (ok : Bool), (ok = true → ∃ h : i < lv.length, step % max 1 lv[i].step = 0 ∧ keepB lv[i] [] w.a t = true) → (ok = false → i = 0) → K (.tup [(.c (.int .i64 i)), (.c (.bool ok)), (.c (.int .i64 0))]) H) : ACalls Tryz.prog 7 [.c (.lst 2 (lv.map encL)), .c (.lst 6 []), (.c (.str tag)), .agg (encW w), (.c (.int .i64 step)), (.c (.int .i64 t))] H K := by
  obtain ⟨hx, h6, h0⟩ := lvF_ok hl
  have hs1 : 1 ≤ step := hs.1
  have hs2 : step ≤ 86400000 := hs.2.1
  refine acalls Tryz.func7 rfl (by kernel_rfl) (by simp (disch := first | omega | (simp only [go_sem]; first | done | omega)) only [go_sem]) (fun hH => ?_)
  simp (disch := first | omega | (simp only [go_sem]; first | done | omega)) only [go_sem]
  refine fault_a lv [] tag (by omega) (by simp) (by simp) ht ?_
  rw [hl, htag, show hdF [] = 0 from rfl, show firstE ([0, 0, 0] : List Int) = 0 from rfl]
  simp (disch := first | omega | (simp only [go_sem]; first | done | omega)) only [go_sem]
  refine moment_a _ _ _ ?_
  simp (disch := first | omega | (simp only [go_sem]; first | done | omega)) only [go_sem]
  refine isStep_a _ _ _ ?_
  simp (disch := first | omega | (simp only [go_sem]; first | done | omega)) only [go_sem, hs, hd1, hd2]
  refine of_a [] tag (by simp) ?_
  simp (disch := first | omega | (simp only [go_sem]; first | done | omega)) only [go_sem]
  refine AWp.loop (H.length + 1) [0, 1, 4, 5, 9] [16] (fun (k : Nat) => k ≤ lv.length) (fun (k : Nat) => [(16, (.c (.int .i64 ((k : Int) - 1))))]) (fun (k : Nat) => H ++ [.row 32 2 [encW w] true]) (fun (k : Nat) => k) (by kernel_rfl) (fun _ => rfl) (by kernel_rfl) (by simp) (by first | (simp; done) | (simp; omega)) (by (try simp only [List.forall_mem_cons, List.not_mem_nil, false_implies, implies_true, and_true]); (try simp (disch := first | omega | (simp only [go_sem]; first | done | omega)) only [go_sem]); all_goals first | trivial | (simp [AV.ok, AV.ok1, AC.ok]; done) | (simp [AV.ok, AV.ok1, AC.ok]; omega) | (simp [AV.ok, AV.ok1, AC.ok]; assumption) | ((repeat' apply And.intro) <;> first | trivial | (simp [AV.ok, AV.ok1, AC.ok]; done) | (simp [AV.ok, AV.ok1, AC.ok]; omega) | (simp [AV.ok, AV.ok1, AC.ok]; assumption) | (refine grV_ok ?_ _; first | (simp; done) | (simp; omega) | omega))) ?_ (fun k hk1 _ _ => ?_)
  · exact Next.mk lv.length (Nat.le_refl _) (by (try simp (disch := first | omega | (simp only [go_sem]; first | done | omega)) only [go_sem]); (first | refine WkL.eq ?_ ?_ | refine WkL.rest (by assumption) ?_ ?_ ?_ | refine WkL.keepL (by assumption) rfl ?_ ?_ ?_ ?_) <;> first | rfl | (simp; done) | (simp; omega) | (simp only [List.cons.injEq, AV.c.injEq, AC.int.injEq, AC.bool.injEq, AC.str.injEq, and_true, true_and, Int.natCast_add, Int.natCast_one, Int.cast_ofNat_Int]; omega) | (simp [AV.ok, AV.ok1, AC.ok]; done) | (simp [AV.ok, AV.ok1, AC.ok]; omega) | (simp only [List.forall_mem_cons, List.not_mem_nil, false_implies, implies_true, and_true]; (repeat' apply And.intro) <;> first | exact okN_map (fun x => by simp [go_sem, AC.pure]) | exact okN_grO (fun x => by simp [go_sem, AC.pure]) | (simp [AObj.okN, AC.ok]; done) | (simp [AObj.okN, AC.ok]; omega)) | (simp [*]; done) | grind)
  by_cases h1 : 0 < k
  · have hkl : k - 1 < lv.length := by omega
    have e1 : ((k : Int) - 1).toNat = k - 1 := by omega
    have hX : lv[((k : Int) - 1).toNat]'(by omega) = lv[k - 1] := by simp only [e1]
    have hxk := hx lv[k - 1] (List.getElem_mem hkl)
    have hok := hxk
    obtain ⟨x0, x1, x2, x3⟩ := hxk
    have e2 : ((k : Int) - 1) = ((k - 1 : Nat) : Int) := by omega
    obtain ⟨n, hn⟩ : ∃ n, max 1 lv[k - 1].step = n := ⟨_, rfl⟩
    have hn1 : 1 ≤ n := by omega
    have hn2 : n ≤ 86400000 := by omega
    by_cases c1 : step % n = 0
    · by_cases c2 : w.a % n = 0
      · by_cases c3 : w.b % n = 0
        · simp (disch := first | omega | (simp only [go_sem]; first | done | omega)) only [go_sem, hX, hn, c1, c2, c3]
          refine keepsAll0_a lv[k - 1] w t hok hw0 hw1 (by omega) ?_
          simp (disch := first | omega | (simp only [go_sem]; first | done | omega)) only [go_sem]
          refine acond_b (fun c4 => ?_) (fun c4 => ?_)
          · have hkk := hk (k - 1) true (fun _ => ⟨hkl, by rw [hn]; exact c1, c4⟩) (fun h => by cases h)
            rw [← e2] at hkk
            simp (disch := first | omega | (simp only [go_sem]; first | done | omega)) only [go_sem]
            exact Ret.drop hH (Nat.le_refl _) (by simp [AV.ok, AV.ok1, AC.ok]) hkk
          · simp (disch := first | omega | (simp only [go_sem]; first | done | omega)) only [go_sem]
            exact Next.mk (k - 1) ⟨by omega, by omega⟩ (by (try simp (disch := first | omega | (simp only [go_sem]; first | done | omega)) only [go_sem]); (first | refine WkL.eq ?_ ?_ | refine WkL.rest (by assumption) ?_ ?_ ?_ | refine WkL.keepL (by assumption) rfl ?_ ?_ ?_ ?_) <;> first | rfl | (simp; done) | (simp; omega) | (simp only [List.cons.injEq, AV.c.injEq, AC.int.injEq, AC.bool.injEq, AC.str.injEq, and_true, true_and, Int.natCast_add, Int.natCast_one, Int.cast_ofNat_Int]; omega) | (simp [AV.ok, AV.ok1, AC.ok]; done) | (simp [AV.ok, AV.ok1, AC.ok]; omega) | (simp only [List.forall_mem_cons, List.not_mem_nil, false_implies, implies_true, and_true]; (repeat' apply And.intro) <;> first | exact okN_map (fun x => by simp [go_sem, AC.pure]) | exact okN_grO (fun x => by simp [go_sem, AC.pure]) | (simp [AObj.okN, AC.ok]; done) | (simp [AObj.okN, AC.ok]; omega)) | (simp [*]; done) | grind)
        · simp (disch := first | omega | (simp only [go_sem]; first | done | omega)) only [go_sem, hX, hn, c1, c2, c3]
          exact Next.mk (k - 1) ⟨by omega, by omega⟩ (by (try simp (disch := first | omega | (simp only [go_sem]; first | done | omega)) only [go_sem]); (first | refine WkL.eq ?_ ?_ | refine WkL.rest (by assumption) ?_ ?_ ?_ | refine WkL.keepL (by assumption) rfl ?_ ?_ ?_ ?_) <;> first | rfl | (simp; done) | (simp; omega) | (simp only [List.cons.injEq, AV.c.injEq, AC.int.injEq, AC.bool.injEq, AC.str.injEq, and_true, true_and, Int.natCast_add, Int.natCast_one, Int.cast_ofNat_Int]; omega) | (simp [AV.ok, AV.ok1, AC.ok]; done) | (simp [AV.ok, AV.ok1, AC.ok]; omega) | (simp only [List.forall_mem_cons, List.not_mem_nil, false_implies, implies_true, and_true]; (repeat' apply And.intro) <;> first | exact okN_map (fun x => by simp [go_sem, AC.pure]) | exact okN_grO (fun x => by simp [go_sem, AC.pure]) | (simp [AObj.okN, AC.ok]; done) | (simp [AObj.okN, AC.ok]; omega)) | (simp [*]; done) | grind)
      · simp (disch := first | omega | (simp only [go_sem]; first | done | omega)) only [go_sem, hX, hn, c1, c2]
        exact Next.mk (k - 1) ⟨by omega, by omega⟩ (by (try simp (disch := first | omega | (simp only [go_sem]; first | done | omega)) only [go_sem]); (first | refine WkL.eq ?_ ?_ | refine WkL.rest (by assumption) ?_ ?_ ?_ | refine WkL.keepL (by assumption) rfl ?_ ?_ ?_ ?_) <;> first | rfl | (simp; done) | (simp; omega) | (simp only [List.cons.injEq, AV.c.injEq, AC.int.injEq, AC.bool.injEq, AC.str.injEq, and_true, true_and, Int.natCast_add, Int.natCast_one, Int.cast_ofNat_Int]; omega) | (simp [AV.ok, AV.ok1, AC.ok]; done) | (simp [AV.ok, AV.ok1, AC.ok]; omega) | (simp only [List.forall_mem_cons, List.not_mem_nil, false_implies, implies_true, and_true]; (repeat' apply And.intro) <;> first | exact okN_map (fun x => by simp [go_sem, AC.pure]) | exact okN_grO (fun x => by simp [go_sem, AC.pure]) | (simp [AObj.okN, AC.ok]; done) | (simp [AObj.okN, AC.ok]; omega)) | (simp [*]; done) | grind)
    · simp (disch := first | omega | (simp only [go_sem]; first | done | omega)) only [go_sem, hX, hn, c1]
      exact Next.mk (k - 1) ⟨by omega, by omega⟩ (by (try simp (disch := first | omega | (simp only [go_sem]; first | done | omega)) only [go_sem]); (first | refine WkL.eq ?_ ?_ | refine WkL.rest (by assumption) ?_ ?_ ?_ | refine WkL.keepL (by assumption) rfl ?_ ?_ ?_ ?_) <;> first | rfl | (simp; done) | (simp; omega) | (simp only [List.cons.injEq, AV.c.injEq, AC.int.injEq, AC.bool.injEq, AC.str.injEq, and_true, true_and, Int.natCast_add, Int.natCast_one, Int.cast_ofNat_Int]; omega) | (simp [AV.ok, AV.ok1, AC.ok]; done) | (simp [AV.ok, AV.ok1, AC.ok]; omega) | (simp only [List.forall_mem_cons, List.not_mem_nil, false_implies, implies_true, and_true]; (repeat' apply And.intro) <;> first | exact okN_map (fun x => by simp [go_sem, AC.pure]) | exact okN_grO (fun x => by simp [go_sem, AC.pure]) | (simp [AObj.okN, AC.ok]; done) | (simp [AObj.okN, AC.ok]; omega)) | (simp [*]; done) | grind)
  · simp (disch := first | omega | (simp only [go_sem]; first | done | omega)) only [go_sem]
    exact Ret.drop hH (Nat.le_refl _) (by simp [AV.ok, AV.ok1, AC.ok]) (hk 0 false (fun h => by cases h) (fun _ => rfl))
end Go.Proofs.YthbdhennkmpgbaaGreatDoor
