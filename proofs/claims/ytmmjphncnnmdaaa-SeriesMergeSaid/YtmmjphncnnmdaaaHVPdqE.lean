/- Samples sorted in place: patterns broken, of 13 elements. No condition on the numbers: they are told. -/
import Derived.Test.YtmmjphncnnmdaaaHVPdqD
namespace Go.Proofs.Ytmmjphncnnmdaaa
open Go Go.RowKit
set_option maxRecDepth 100000
set_option linter.all false
set_option maxHeartbeats 1000000
variable {H : Hp} {K : AV → Hp → Prop}
theorem aIf_val {c : Prop} {v v' : AV} {J : AV → Hp → Prop} (hc : c) (hv : v = v') (h : J v' H) : aIf c v H J := hv ▸ ⟨hc, h⟩
theorem len64_a (hk : K (.c (.int .i64 4)) H) : ACalls Try.prog 106 [.c (.int .u64 13)] H K := by
  refine acalls Try.func106 rfl (by kernel_rfl) (by simp (disch := first | omega | (simp only [go_sem]; first | done | omega)) only [go_sem]) (fun hH => ?_)
  simp (disch := first | omega | (simp only [go_sem]; first | done | omega)) only [go_sem]
  refine aIf_val (v' := .c (.int .u8 4)) (by decide +kernel) (congrArg (fun z => AV.c (.int .u8 z)) (by decide +kernel : _ = (4 : Int))) ?_
  simp (disch := first | omega | (simp only [go_sem]; first | done | omega)) only [go_sem]
  exact Ret.same (Nat.le_refl _) hk
theorem len_a (hk : K (.c (.int .i64 4)) H) : ACalls Try.prog 85 [.c (.int .u64 13)] H K := by
  refine acalls Try.func85 rfl (by kernel_rfl) (by simp (disch := first | omega | (simp only [go_sem]; first | done | omega)) only [go_sem]) (fun hH => ?_)
  simp (disch := first | omega | (simp only [go_sem]; first | done | omega)) only [go_sem]
  refine len64_a ?_
  simp (disch := first | omega | (simp only [go_sem]; first | done | omega)) only [go_sem]
  exact Ret.same (Nat.le_refl _) hk
theorem npow_a (hk : K (.c (.int .u64 16)) H) : ACalls Try.prog 113 [(.c (.int .i64 13))] H K := by
  refine acalls Try.func113 rfl (by kernel_rfl) (by simp (disch := first | omega | (simp only [go_sem]; first | done | omega)) only [go_sem]) (fun hH => ?_)
  simp (disch := first | omega | (simp only [go_sem]; first | done | omega)) only [go_sem]
  refine len_a ?_
  simp (disch := first | omega | (simp only [go_sem]; first | done | omega)) only [go_sem]
  exact Ret.same (Nat.le_refl _) hk
def x13 (r : Int) : Int := IntKind.u64.wrap (BitVec.ofInt 64 r ^^^ BitVec.ofInt 64 (IntKind.u64.wrap (r * 2 ^ min 13 64))).toNat
def x7 (r : Int) : Int := IntKind.u64.wrap (BitVec.ofInt 64 r ^^^ BitVec.ofInt 64 (r.fdiv (2 ^ min 7 64))).toNat
def x17 (r : Int) : Int := IntKind.u64.wrap (BitVec.ofInt 64 r ^^^ BitVec.ofInt 64 (IntKind.u64.wrap (r * 2 ^ min 17 64))).toNat
def xorI (r : Int) : Int := x17 (x7 (x13 r))
theorem xor1 : xorI 13 = 14069506893 := by decide +kernel
theorem xor2 : xorI 14069506893 = 14988908846326605643 := by decide +kernel
theorem xor3 : xorI 14988908846326605643 = 3428281591454193221 := by decide +kernel
def cellX (r : Int) : AObj := .row 133 1 [[.int .u64 r]] true
theorem xnext_a {c : Nat} {r : Int} (hc : H[c]? = some (cellX r)) (hk : K (.c (.int .u64 (xorI r))) (H.set c (cellX (xorI r)))) :
    ACalls Try.prog 114 [.c (.ptr (some (c, 0, 0)))] H K := by
  have hcl := getElem?_lt hc
  unfold xorI x17 x7 x13 at hk
  unfold cellX at hc hk
  refine acalls Try.func114 rfl (by kernel_rfl) (by simp (disch := first | omega | (simp only [go_sem]; first | done | omega)) only [go_sem]) (fun hH => ?_)
  simp (disch := first | omega | (simp only [go_sem]; first | done | omega)) only [go_sem]
  refine w_draw (by kernel_rfl) (by decide +kernel) ?_
  simp (disch := first | omega | (simp only [go_sem]; first | done | omega)) only [go_sem, hc]
  refine w_draw (by kernel_rfl) (by decide +kernel) ?_
  simp (disch := first | omega | (simp only [go_sem]; first | done | omega)) only [go_sem, hc]
  refine w_draw (by kernel_rfl) (by decide +kernel) ?_
  simp (disch := first | omega | (simp only [go_sem]; first | done | omega)) only [go_sem, hc]
  exact Ret.same (by simp) hk
/-- the array and the number ahead of each of the rounds -/
def bpD (d : Array Smp) (a : Nat) : Nat → Array Smp
  | 0 => d
  | 1 => Go.Sort.swp d (a + 5) a
  | 2 => Go.Sort.swp (Go.Sort.swp d (a + 5) a) (a + 6) (a + 11)
  | _ => Go.Sort.swp (Go.Sort.swp (Go.Sort.swp d (a + 5) a) (a + 6) (a + 11)) (a + 7) (a + 5)
def bpR : Nat → Int
  | 0 => 13
  | 1 => 14069506893
  | 2 => 14988908846326605643
  | _ => 3428281591454193221
theorem bpD_size (d : Array Smp) (a k : Nat) : (bpD d a k).size = d.size := by
  unfold bpD; split <;> simp only [Go.Sort.size_swp]
theorem bp_eq (d : Array Smp) (a : Nat) : Go.Sort.breakPatterns d a (a + 13) = bpD d a 3 := by
  have e1 : Go.Sort.xorNext (UInt64.ofNat 13) = 14069506893 := by decide +kernel
  have e2 : Go.Sort.xorNext 14069506893 = 14988908846326605643 := by decide +kernel
  have e3 : Go.Sort.xorNext 14988908846326605643 = 3428281591454193221 := by decide +kernel
  unfold Go.Sort.breakPatterns
  have h13 : a + 13 - a = 13 := by omega
  rw [h13]
  have f : ∀ (r r' : UInt64) (d : Array Smp) (idx o : Nat), Go.Sort.xorNext r = r' → (if r'.toNat &&& (1 <<< Go.Sort.bitsLen 13 - 1) ≥ 13 then (r'.toNat &&& (1 <<< Go.Sort.bitsLen 13 - 1)) - 13 else r'.toNat &&& (1 <<< Go.Sort.bitsLen 13 - 1)) = o → Go.Sort.breakStep a 13 (1 <<< Go.Sort.bitsLen 13) (r, d) idx = (r', Go.Sort.swp d idx (a + o)) := by
    intro r r' d idx o h1 h2
    unfold Go.Sort.breakStep
    dsimp only
    rw [h1, h2]
  have i1 : a + 13 / 4 * 2 - 1 = a + 5 := by omega
  rw [if_pos (by decide : (13 : Nat) ≥ 8)]
  simp only [i1]
  rw [f _ _ _ _ 0 e1 (by decide +kernel), f _ _ _ _ 11 e2 (by decide +kernel), f _ _ _ _ 5 e3 (by decide +kernel)]
  simp only [bpD, Nat.add_assoc, Nat.add_zero]
theorem breakP_a {f : FuncId} {i n a : Nat} (d : Array Smp) (hi : H[i]? = some (rowA d)) (hn : n = d.size) (hb : a + 13 ≤ d.size) (hsz : d.size ≤ 1000000)
    (hk : K (.tup []) (H.set i (rowA (bpD d a 3)))) :
    ACalls Try.prog 99 [.c (.sl (some (i, 0)) n), (.c (.int .i64 a)), (.c (.int .i64 ((a + 13 : Nat)))), .c (.fn f [] [])] H K := by
  subst hn
  have hilt := getElem?_lt hi
  have hs1 : ∀ (y x z : AObj), (H.set i y ++ [x]).set H.length z = H.set i y ++ [z] := by
    intro y x z
    rw [List.set_append_right _ _ (by simp)]
    simp
  have hs2 : ∀ (y x z : AObj), (H.set i y ++ [x]).set i z = H.set i z ++ [x] := by
    intro y x z
    rw [List.set_append_left _ _ (by simpa using hilt), List.set_set]
  have hg1 : ∀ (y x : AObj), (H.set i y ++ [x])[i]? = some y := by
    intro y x
    rw [List.getElem?_append_left (by simpa using hilt), List.getElem?_set_self hilt]
  have hg2 : ∀ (y x : AObj), (H.set i y ++ [x])[H.length]? = some x := by
    intro y x
    rw [List.getElem?_append_right (by simp)]
    simp
  have e13 : ((a + 13 : Nat) : Int) - a = 13 := by omega
  refine acalls Try.func99 rfl (by kernel_rfl) (by simp (disch := first | omega | (simp only [go_sem]; first | done | omega)) only [go_sem]) (fun hH => ?_)
  simp (disch := first | omega | (simp only [go_sem]; first | done | omega)) only [go_sem, e13]
  refine npow_a ?_
  simp (disch := first | omega | (simp only [go_sem]; first | done | omega)) only [go_sem]
  refine AWp.loop (H.length + 1) [0, 1, 8, 9, 10] [11] (fun (q : Nat) => q ≤ 3) (fun (q : Nat) => [(11, (.c (.int .i64 (((a + 5 + q : Nat) : Int)))))]) (fun (q : Nat) => H.set i (rowA (bpD d a q)) ++ [cellX (bpR q)]) (fun (q : Nat) => 3 - q) (by kernel_rfl) (fun _ => rfl) (by kernel_rfl) (by simp) (by first | (simp; done) | (simp; omega)) (by (try simp only [List.forall_mem_cons, List.not_mem_nil, false_implies, implies_true, and_true]); (try simp (disch := first | omega | (simp only [go_sem]; first | done | omega)) only [go_sem]); all_goals first | trivial | (simp [AV.ok, AV.ok1, AC.ok]; done) | (simp [AV.ok, AV.ok1, AC.ok]; omega) | (simp [AV.ok, AV.ok1, AC.ok]; assumption) | ((repeat' apply And.intro) <;> first | trivial | (simp [AV.ok, AV.ok1, AC.ok]; done) | (simp [AV.ok, AV.ok1, AC.ok]; omega) | (simp [AV.ok, AV.ok1, AC.ok]; assumption) | (refine grV_ok ?_ _; first | (simp; done) | (simp; omega) | omega))) ?_ (fun q hq _ _ => ?_)
  · refine Next.mk 0 (by omega) ?_
    rw [show bpD d a 0 = d from rfl, show bpR 0 = 13 from rfl, set_same hi]
    (try simp (disch := first | omega | (simp only [go_sem]; first | done | omega)) only [go_sem]); (first | refine WkL.eq ?_ ?_ | refine WkL.rest (by assumption) ?_ ?_ ?_ | refine WkL.keepL (by assumption) rfl ?_ ?_ ?_ ?_) <;> first | rfl | (simp; done) | (simp; omega) | (simp only [List.cons.injEq, AV.c.injEq, AC.int.injEq, AC.bool.injEq, AC.str.injEq, and_true, true_and, Int.natCast_add, Int.natCast_one, Int.cast_ofNat_Int]; omega) | (simp [AV.ok, AV.ok1, AC.ok]; done) | (simp [AV.ok, AV.ok1, AC.ok]; omega) | (simp only [List.forall_mem_cons, List.not_mem_nil, false_implies, implies_true, and_true]; (repeat' apply And.intro) <;> first | exact okN_map (fun x => by simp [go_sem, AC.pure]) | exact okN_grO (fun x => by simp [go_sem, AC.pure]) | (simp [AObj.okN, AC.ok]; done) | (simp [AObj.okN, AC.ok]; omega)) | (simp [*]; done) | grind
  obtain rfl | rfl | rfl | rfl : q = 0 ∨ q = 1 ∨ q = 2 ∨ q = 3 := by omega
  · -- round 0
    obtain ⟨D, hD⟩ : ∃ D, D = bpD d a 0 := ⟨_, rfl⟩
    have hDs : D.size = d.size := by rw [hD, bpD_size]
    have hE : Go.Sort.swp D (a + 5) a = bpD d a 1 := by rw [hD]; rfl
    have hul : a + 5 < D.toList.length := by rw [Array.length_toList]; omega
    have hvl : a < D.toList.length := by rw [Array.length_toList]; omega
    have hxu : D.toList[a + 5] = D[a + 5]! := arr_at D hul
    have hxv : D.toList[a] = D[a]! := arr_at D hvl
    have hsw := swp_row D (a + 5) a
    rw [hE] at hsw
    simp only [encS] at hsw
    rw [← hD]
    simp (disch := first | omega | (simp only [go_sem]; first | done | omega)) only [go_sem]
    refine xnext_a (r := 13) (hg2 _ _) ?_
    rw [hs1, xor1]
    have eA : IntKind.i64.wrap (IntKind.u64.wrap ((BitVec.ofInt IntKind.u64.bits 14069506893 &&& BitVec.ofInt IntKind.u64.bits (IntKind.u64.wrap 15)).toNat : Nat)) = 13 := by decide +kernel
    simp only [go_sem] at eA
    simp (disch := first | omega | (simp only [go_sem]; first | done | omega)) only [go_sem]
    rw [eA]
    simp (disch := first | omega | (simp only [go_sem]; first | done | omega)) only [go_sem]
    have tv : ((a : Int) + 0).toNat = a := by omega
    have tu : a + 5 + 0 = a + 5 := rfl
    refine w_draw (by kernel_rfl) (by decide +kernel) ?_
    simp (disch := first | omega | (simp only [go_sem]; first | done | omega)) only [go_sem, hxu, hxv, hsw, hg1, tv, tu]
    refine Next.mk 1 ⟨by omega, by omega⟩ ?_
    rw [show bpR 1 = 14069506893 from rfl]
    (try simp (disch := first | omega | (simp only [go_sem]; first | done | omega)) only [go_sem]); (first | refine WkL.eq ?_ ?_ | refine WkL.rest (by assumption) ?_ ?_ ?_ | refine WkL.keepL (by assumption) rfl ?_ ?_ ?_ ?_) <;> first | rfl | (simp; done) | (simp; omega) | (simp only [List.cons.injEq, AV.c.injEq, AC.int.injEq, AC.bool.injEq, AC.str.injEq, and_true, true_and, Int.natCast_add, Int.natCast_one, Int.cast_ofNat_Int]; omega) | (simp [AV.ok, AV.ok1, AC.ok]; done) | (simp [AV.ok, AV.ok1, AC.ok]; omega) | (simp only [List.forall_mem_cons, List.not_mem_nil, false_implies, implies_true, and_true]; (repeat' apply And.intro) <;> first | exact okN_map (fun x => by simp [go_sem, AC.pure]) | exact okN_grO (fun x => by simp [go_sem, AC.pure]) | (simp [AObj.okN, AC.ok]; done) | (simp [AObj.okN, AC.ok]; omega)) | (simp [*]; done) | grind
  · -- round 1
    obtain ⟨D, hD⟩ : ∃ D, D = bpD d a 1 := ⟨_, rfl⟩
    have hDs : D.size = d.size := by rw [hD, bpD_size]
    have hE : Go.Sort.swp D (a + 6) (a + 11) = bpD d a 2 := by rw [hD]; rfl
    have hul : a + 6 < D.toList.length := by rw [Array.length_toList]; omega
    have hvl : a + 11 < D.toList.length := by rw [Array.length_toList]; omega
    have hxu : D.toList[a + 6] = D[a + 6]! := arr_at D hul
    have hxv : D.toList[a + 11] = D[a + 11]! := arr_at D hvl
    have hsw := swp_row D (a + 6) (a + 11)
    rw [hE] at hsw
    simp only [encS] at hsw
    rw [← hD]
    simp (disch := first | omega | (simp only [go_sem]; first | done | omega)) only [go_sem]
    refine xnext_a (r := 14069506893) (hg2 _ _) ?_
    rw [hs1, xor2]
    have eA : IntKind.i64.wrap (IntKind.u64.wrap ((BitVec.ofInt IntKind.u64.bits 14988908846326605643 &&& BitVec.ofInt IntKind.u64.bits (IntKind.u64.wrap 15)).toNat : Nat)) = 11 := by decide +kernel
    simp only [go_sem] at eA
    simp (disch := first | omega | (simp only [go_sem]; first | done | omega)) only [go_sem]
    rw [eA]
    have tv : ((a : Int) + 11).toNat = a + 11 := by omega
    have tu : a + 5 + 1 = a + 6 := rfl
    refine w_draw (by kernel_rfl) (by decide +kernel) ?_
    simp (disch := first | omega | (simp only [go_sem]; first | done | omega)) only [go_sem, hxu, hxv, hsw, hg1, tv, tu]
    refine Next.mk 2 ⟨by omega, by omega⟩ ?_
    rw [show bpR 2 = 14988908846326605643 from rfl]
    (try simp (disch := first | omega | (simp only [go_sem]; first | done | omega)) only [go_sem]); (first | refine WkL.eq ?_ ?_ | refine WkL.rest (by assumption) ?_ ?_ ?_ | refine WkL.keepL (by assumption) rfl ?_ ?_ ?_ ?_) <;> first | rfl | (simp; done) | (simp; omega) | (simp only [List.cons.injEq, AV.c.injEq, AC.int.injEq, AC.bool.injEq, AC.str.injEq, and_true, true_and, Int.natCast_add, Int.natCast_one, Int.cast_ofNat_Int]; omega) | (simp [AV.ok, AV.ok1, AC.ok]; done) | (simp [AV.ok, AV.ok1, AC.ok]; omega) | (simp only [List.forall_mem_cons, List.not_mem_nil, false_implies, implies_true, and_true]; (repeat' apply And.intro) <;> first | exact okN_map (fun x => by simp [go_sem, AC.pure]) | exact okN_grO (fun x => by simp [go_sem, AC.pure]) | (simp [AObj.okN, AC.ok]; done) | (simp [AObj.okN, AC.ok]; omega)) | (simp [*]; done) | grind
  · -- round 2
    obtain ⟨D, hD⟩ : ∃ D, D = bpD d a 2 := ⟨_, rfl⟩
    have hDs : D.size = d.size := by rw [hD, bpD_size]
    have hE : Go.Sort.swp D (a + 7) (a + 5) = bpD d a 3 := by rw [hD]; rfl
    have hul : a + 7 < D.toList.length := by rw [Array.length_toList]; omega
    have hvl : a + 5 < D.toList.length := by rw [Array.length_toList]; omega
    have hxu : D.toList[a + 7] = D[a + 7]! := arr_at D hul
    have hxv : D.toList[a + 5] = D[a + 5]! := arr_at D hvl
    have hsw := swp_row D (a + 7) (a + 5)
    rw [hE] at hsw
    simp only [encS] at hsw
    rw [← hD]
    simp (disch := first | omega | (simp only [go_sem]; first | done | omega)) only [go_sem]
    refine xnext_a (r := 14988908846326605643) (hg2 _ _) ?_
    rw [hs1, xor3]
    have eA : IntKind.i64.wrap (IntKind.u64.wrap ((BitVec.ofInt IntKind.u64.bits 3428281591454193221 &&& BitVec.ofInt IntKind.u64.bits (IntKind.u64.wrap 15)).toNat : Nat)) = 5 := by decide +kernel
    simp only [go_sem] at eA
    simp (disch := first | omega | (simp only [go_sem]; first | done | omega)) only [go_sem]
    rw [eA]
    have tv : ((a : Int) + 5).toNat = a + 5 := by omega
    have tu : a + 5 + 2 = a + 7 := rfl
    refine w_draw (by kernel_rfl) (by decide +kernel) ?_
    simp (disch := first | omega | (simp only [go_sem]; first | done | omega)) only [go_sem, hxu, hxv, hsw, hg1, tv, tu]
    refine Next.mk 3 ⟨by omega, by omega⟩ ?_
    rw [show bpR 3 = 3428281591454193221 from rfl]
    (try simp (disch := first | omega | (simp only [go_sem]; first | done | omega)) only [go_sem]); (first | refine WkL.eq ?_ ?_ | refine WkL.rest (by assumption) ?_ ?_ ?_ | refine WkL.keepL (by assumption) rfl ?_ ?_ ?_ ?_) <;> first | rfl | (simp; done) | (simp; omega) | (simp only [List.cons.injEq, AV.c.injEq, AC.int.injEq, AC.bool.injEq, AC.str.injEq, and_true, true_and, Int.natCast_add, Int.natCast_one, Int.cast_ofNat_Int]; omega) | (simp [AV.ok, AV.ok1, AC.ok]; done) | (simp [AV.ok, AV.ok1, AC.ok]; omega) | (simp only [List.forall_mem_cons, List.not_mem_nil, false_implies, implies_true, and_true]; (repeat' apply And.intro) <;> first | exact okN_map (fun x => by simp [go_sem, AC.pure]) | exact okN_grO (fun x => by simp [go_sem, AC.pure]) | (simp [AObj.okN, AC.ok]; done) | (simp [AObj.okN, AC.ok]; omega)) | (simp [*]; done) | grind
  · simp (disch := first | omega | (simp only [go_sem]; first | done | omega)) only [go_sem]
    exact Ret.drop (HOk.set hH (okN_pure (by simp [pureL, AC.pure]) (by simp) _)) (by simp) (by simp [AV.ok, AV.ok1, AC.ok]) hk
end Go.Proofs.Ytmmjphncnnmdaaa
