/- Several texts in one: Strings: bytes, keys, and what follows. No condition. -/
import Derived.Test.YthgdllfkejlnmaaGreatHVGA
import Derived.Lib.Bytealg
import Derived.Test.YthgdllfkejlnmaaGreatHVGC
import Derived.Test.YthgdllfkejlnmaaGreatHVGB
/- Strings: bytes, keys. No condition. -/
namespace Go.Proofs.YthgdllfkejlnmaaGreat
open Go Go.RowKit
set_option maxRecDepth 100000
set_option linter.all false
set_option maxHeartbeats 1000000
variable {H : Hp} {K : AV → Hp → Prop}
theorem data_inj {a b : ByteArray} (h : a.data.toList = b.data.toList) : a = b := by
  obtain ⟨⟨x⟩⟩ := a
  obtain ⟨⟨y⟩⟩ := b
  simp at h
  rw [h]
@[go_sem] theorem str_eq (a b : ByteArray) : (a.toList == b.toList) = decide (a = b) := by
  rw [ByteArray.toList_eq, ByteArray.toList_eq, Bool.eq_iff_iff, beq_iff_eq, decide_eq_true_eq]
  exact ⟨data_inj, fun h => by rw [h]⟩
def byteAt (s : ByteArray) (i : Nat) : Int := ((s.data.toList.getD i 0).toNat : Int)
theorem byteAt_bd (s : ByteArray) (i : Nat) : 0 ≤ byteAt s i ∧ byteAt s i ≤ 255 := by
  unfold byteAt
  have := UInt8.toNat_lt (s.data.toList.getD i 0)
  omega
@[go_sem] theorem byteAt_fold (s : ByteArray) (i : Nat) : ((s.data.toList.getD i 0).toNat : Int) = byteAt s i := (rfl)
abbrev keyN (c : Int) : Prop := (97 ≤ c ∧ c ≤ 122) ∨ (48 ≤ c ∧ c ≤ 57) ∨ c = 45 ∨ c = 95
def isKey (s : ByteArray) : Prop := 1 ≤ s.size ∧ s.size ≤ 40 ∧ (97 ≤ byteAt s 0 ∧ byteAt s 0 ≤ 122) ∧ ∀ i, i < s.size → keyN (byteAt s i)
instance (s : ByteArray) : Decidable (isKey s) := by unfold isKey; infer_instance
theorem size_zero {s : ByteArray} : s = ⟨#[]⟩ ↔ s.size = 0 := by
  constructor
  · rintro rfl; rfl
  · intro h
    apply data_inj
    have h2 : s.data.toList.length = 0 := h
    rw [List.length_eq_zero_iff.1 h2]
theorem key_a (s : ByteArray) (hs : s.size ≤ 1099511627776) (hk : K (.c (.bool (decide (isKey s)))) H) : ACalls Tryz.prog 124 [(.c (.str s))] H K := by
  have hb := byteAt_bd s 0
  have bad : ¬(1 ≤ s.size ∧ s.size ≤ 40 ∧ (97 ≤ byteAt s 0 ∧ byteAt s 0 ≤ 122)) → decide (isKey s) = false := fun h => by
    rw [decide_eq_false_iff_not]
    exact fun h2 => h ⟨h2.1, h2.2.1, h2.2.2.1⟩
  by_cases h0 : s = ⟨#[]⟩
  · have h1 := size_zero.1 h0
    refine acalls Tryz.func124 rfl (by kernel_rfl) (by simp (disch := first | omega | (simp only [go_sem]; first | done | omega)) only [go_sem]) (fun hH => ?_)
    simp (disch := first | omega | (simp only [go_sem]; first | done | omega)) only [go_sem, h0]
    rw [bad (by omega)] at hk
    exact Ret.same (Nat.le_refl _) hk
  have h1 : 0 < s.size := by have := mt size_zero.2 h0; omega
  by_cases h2 : 40 < s.size
  · refine acalls Tryz.func124 rfl (by kernel_rfl) (by simp (disch := first | omega | (simp only [go_sem]; first | done | omega)) only [go_sem]) (fun hH => ?_)
    simp (disch := first | omega | (simp only [go_sem]; first | done | omega)) only [go_sem, h0, h2]
    rw [bad (by omega)] at hk
    exact Ret.same (Nat.le_refl _) hk
  by_cases h3 : byteAt s 0 < 97
  · refine acalls Tryz.func124 rfl (by kernel_rfl) (by simp (disch := first | omega | (simp only [go_sem]; first | done | omega)) only [go_sem]) (fun hH => ?_)
    simp (disch := first | omega | (simp only [go_sem]; first | done | omega)) only [go_sem, h0, h2, h3]
    rw [bad (by omega)] at hk
    exact Ret.same (Nat.le_refl _) hk
  by_cases h4 : 122 < byteAt s 0
  · refine acalls Tryz.func124 rfl (by kernel_rfl) (by simp (disch := first | omega | (simp only [go_sem]; first | done | omega)) only [go_sem]) (fun hH => ?_)
    simp (disch := first | omega | (simp only [go_sem]; first | done | omega)) only [go_sem, h0, h2, h3, h4]
    rw [bad (by omega)] at hk
    exact Ret.same (Nat.le_refl _) hk
  refine acalls Tryz.func124 rfl (by kernel_rfl) (by simp (disch := first | omega | (simp only [go_sem]; first | done | omega)) only [go_sem]) (fun hH => ?_)
  simp (disch := first | omega | (simp only [go_sem]; first | done | omega)) only [go_sem, h0, h2, h3, h4]
  refine AWp.loop (H.length) [0, 23] [24] (fun (k : Nat) => k ≤ s.size ∧ ∀ i, i < k → keyN (byteAt s i)) (fun (k : Nat) => [(24, (.c (.int .i64 k)))]) (fun (k : Nat) => H) (fun (k : Nat) => s.size - k) (by kernel_rfl) (fun _ => rfl) (by kernel_rfl) (by simp) (by first | (simp; done) | (simp; omega)) (by (try simp only [List.forall_mem_cons, List.not_mem_nil, false_implies, implies_true, and_true]); (try simp (disch := first | omega | (simp only [go_sem]; first | done | omega)) only [go_sem]); all_goals first | trivial | (simp [AV.ok, AV.ok1, AC.ok]; done) | (simp [AV.ok, AV.ok1, AC.ok]; omega) | (simp [AV.ok, AV.ok1, AC.ok]; assumption) | ((repeat' apply And.intro) <;> first | trivial | (simp [AV.ok, AV.ok1, AC.ok]; done) | (simp [AV.ok, AV.ok1, AC.ok]; omega) | (simp [AV.ok, AV.ok1, AC.ok]; assumption) | (refine grV_ok ?_ _; first | (simp; done) | (simp; omega) | omega))) ?_ (fun k hk1 _ _ => ?_)
  · exact Next.mk 0 ⟨by omega, fun i hi => by omega⟩ (by (try simp (disch := first | omega | (simp only [go_sem]; first | done | omega)) only [go_sem]); (first | refine WkL.eq ?_ ?_ | refine WkL.rest (by assumption) ?_ ?_ ?_ | refine WkL.keepL (by assumption) rfl ?_ ?_ ?_ ?_) <;> first | rfl | (simp; done) | (simp; omega) | (simp only [List.cons.injEq, AV.c.injEq, AC.int.injEq, AC.bool.injEq, AC.str.injEq, and_true, true_and, Int.natCast_add, Int.natCast_one, Int.cast_ofNat_Int]; omega) | (simp [AV.ok, AV.ok1, AC.ok]; done) | (simp [AV.ok, AV.ok1, AC.ok]; omega) | (simp only [List.forall_mem_cons, List.not_mem_nil, false_implies, implies_true, and_true]; (repeat' apply And.intro) <;> first | exact okN_map (fun x => by simp [go_sem, AC.pure]) | exact okN_grO (fun x => by simp [go_sem, AC.pure]) | (simp [AObj.okN, AC.ok]; done) | (simp [AObj.okN, AC.ok]; omega)) | (simp [*]; done) | grind)
  obtain ⟨hk1, hk2⟩ := hk1
  by_cases hlt : k < s.size
  · have hc := byteAt_bd s k
    by_cases hkey : keyN (byteAt s k)
    · have hside : (k + 1 ≤ s.size ∧ ∀ i, i < k + 1 → keyN (byteAt s i)) ∧ s.size - (k + 1) < s.size - k := by
        refine ⟨⟨by omega, fun i hi => ?_⟩, by omega⟩
        rcases Nat.lt_or_ge i k with h | h
        · exact hk2 i h
        · obtain rfl : i = k := by omega
          exact hkey
      simp (disch := first | omega | (simp only [go_sem]; first | done | omega)) only [go_sem, hlt]
      repeat' (first | ((first | refine acond_d ?_ ?_ | refine acond_b ?_ ?_ | refine ag_d ?_ ?_ | refine ag_n ?_ ?_ | refine ag_bt ?_ ?_ | refine ag_bf ?_ ?_) <;> intro c <;> try simp (disch := first | omega | (simp only [go_sem]; first | done | omega)) only [go_sem, c, hlt]) | ((first | refine w_draw (by kernel_rfl) (by decide +kernel) ?_) <;> try simp (disch := first | omega | (simp only [go_sem]; first | done | omega)) only [go_sem, hlt]))
      all_goals first
        | exact Next.mk (k + 1) hside (by (try simp (disch := first | omega | (simp only [go_sem]; first | done | omega)) only [go_sem]); (first | refine WkL.eq ?_ ?_ | refine WkL.rest (by assumption) ?_ ?_ ?_ | refine WkL.keepL (by assumption) rfl ?_ ?_ ?_ ?_) <;> first | rfl | (simp; done) | (simp; omega) | (simp only [List.cons.injEq, AV.c.injEq, AC.int.injEq, AC.bool.injEq, AC.str.injEq, and_true, true_and, Int.natCast_add, Int.natCast_one, Int.cast_ofNat_Int]; omega) | (simp [AV.ok, AV.ok1, AC.ok]; done) | (simp [AV.ok, AV.ok1, AC.ok]; omega) | (simp only [List.forall_mem_cons, List.not_mem_nil, false_implies, implies_true, and_true]; (repeat' apply And.intro) <;> first | exact okN_map (fun x => by simp [go_sem, AC.pure]) | exact okN_grO (fun x => by simp [go_sem, AC.pure]) | (simp [AObj.okN, AC.ok]; done) | (simp [AObj.okN, AC.ok]; omega)) | (simp [*]; done) | grind)
        | (exfalso; omega)
    · have hf : decide (isKey s) = false := by
        rw [decide_eq_false_iff_not]
        exact fun h => hkey (h.2.2.2 k hlt)
      rw [hf] at hk
      simp (disch := first | omega | (simp only [go_sem]; first | done | omega)) only [go_sem, hlt]
      repeat' (first | ((first | refine acond_d ?_ ?_ | refine acond_b ?_ ?_ | refine ag_d ?_ ?_ | refine ag_n ?_ ?_ | refine ag_bt ?_ ?_ | refine ag_bf ?_ ?_) <;> intro c <;> try simp (disch := first | omega | (simp only [go_sem]; first | done | omega)) only [go_sem, c, hlt]) | ((first | refine w_draw (by kernel_rfl) (by decide +kernel) ?_) <;> try simp (disch := first | omega | (simp only [go_sem]; first | done | omega)) only [go_sem, hlt]))
      all_goals first
        | exact Ret.same (Nat.le_refl _) hk
        | (exfalso; omega)
  · simp (disch := first | omega | (simp only [go_sem]; first | done | omega)) only [go_sem, hlt]
    rw [show decide (isKey s) = true from decide_eq_true ⟨by omega, by omega, by omega, fun i hi => hk2 i (by omega)⟩] at hk
    exact Ret.same (Nat.le_refl _) hk
theorem indexByteX (f : FuncId) (hf : externs Tryz.prog f Extern.BytealgIndexByte.indexByte) (s : ByteArray) (c : Int) (hk : K (.c (.int .i64 (Lib.indexByte s.data.toList c.toNat.toUInt8))) H) : AExt Tryz.prog f [(.c (.str s)), .c (.int .u8 c)] H K := by
  refine ⟨_, hf, fun B w0 ι w vs hs hr ho => ?_⟩
  obtain ⟨l⟩ := vs
  match l, hr with
  | [u, v], hr =>
    have h1 : u = .string s := hr.1
    have h2 : v = .int .u8 c := hr.2.1
    subst h1; subst h2
    refine ⟨_, w, Lib.run_indexByteString s c w, ι, _, (.c (.int .i64 (Lib.indexByte s.data.toList c.toNat.toUInt8))), H, rfl, Agree.refl _ _, Nat.le_refl _, hs, ?_, ?_, hk⟩
    · rfl
    · trivial
theorem ext_indexByte : externs Tryz.prog 286 Extern.BytealgIndexByte.indexByte := ⟨_, rfl, by kernel_rfl, by kernel_rfl, by kernel_rfl, by kernel_rfl⟩
theorem indexByte_a (s : ByteArray) (c : Int) (hk : K (.c (.int .i64 (Lib.indexByte s.data.toList c.toNat.toUInt8))) H) : ACalls Tryz.prog 209 [(.c (.str s)), .c (.int .u8 c)] H K := by
  have key : ∀ (K : AV → Hp → Prop), K (.c (.int .i64 (Lib.indexByte s.data.toList c.toNat.toUInt8))) H → ACalls Tryz.prog 257 [(.c (.str s)), .c (.int .u8 c)] H K := by
    intro K hk
    refine acalls Tryz.func257 rfl (by kernel_rfl) (by simp (disch := first | omega | (simp only [go_sem]; first | done | omega)) only [go_sem]) (fun hH => ?_)
    simp (disch := first | omega | (simp only [go_sem]; first | done | omega)) only [go_sem]
    refine indexByteX _ ext_indexByte s c ?_
    simp (disch := first | omega | (simp only [go_sem]; first | done | omega)) only [go_sem]
    exact Ret.same (Nat.le_refl _) hk
  refine acalls Tryz.func209 rfl (by kernel_rfl) (by simp (disch := first | omega | (simp only [go_sem]; first | done | omega)) only [go_sem]) (fun hH => ?_)
  simp (disch := first | omega | (simp only [go_sem]; first | done | omega)) only [go_sem]
  refine key _ ?_
  simp (disch := first | omega | (simp only [go_sem]; first | done | omega)) only [go_sem]
  exact Ret.same (Nat.le_refl _) hk
/-- is every byte one of some -/
def onlyB (s t : ByteArray) : Prop := ∀ i, i < s.size → 0 ≤ Lib.indexByte t.data.toList (byteAt s i).toNat.toUInt8
instance (s t : ByteArray) : Decidable (onlyB s t) := by unfold onlyB; infer_instance
theorem only_a (s t : ByteArray) (hs : s.size ≤ 1099511627776) (hk : K (.c (.bool (decide (onlyB s t)))) H) : ACalls Tryz.prog 178 [(.c (.str s)), (.c (.str t))] H K := by
  refine acalls Tryz.func178 rfl (by kernel_rfl) (by simp (disch := first | omega | (simp only [go_sem]; first | done | omega)) only [go_sem]) (fun hH => ?_)
  simp (disch := first | omega | (simp only [go_sem]; first | done | omega)) only [go_sem]
  refine AWp.loop (H.length) [0, 1, 7] [8] (fun (k : Nat) => k ≤ s.size ∧ ∀ i, i < k → 0 ≤ Lib.indexByte t.data.toList (byteAt s i).toNat.toUInt8) (fun (k : Nat) => [(8, (.c (.int .i64 k)))]) (fun (k : Nat) => H) (fun (k : Nat) => s.size - k) (by kernel_rfl) (fun _ => rfl) (by kernel_rfl) (by simp) (by first | (simp; done) | (simp; omega)) (by (try simp only [List.forall_mem_cons, List.not_mem_nil, false_implies, implies_true, and_true]); (try simp (disch := first | omega | (simp only [go_sem]; first | done | omega)) only [go_sem]); all_goals first | trivial | (simp [AV.ok, AV.ok1, AC.ok]; done) | (simp [AV.ok, AV.ok1, AC.ok]; omega) | (simp [AV.ok, AV.ok1, AC.ok]; assumption) | ((repeat' apply And.intro) <;> first | trivial | (simp [AV.ok, AV.ok1, AC.ok]; done) | (simp [AV.ok, AV.ok1, AC.ok]; omega) | (simp [AV.ok, AV.ok1, AC.ok]; assumption) | (refine grV_ok ?_ _; first | (simp; done) | (simp; omega) | omega))) ?_ (fun k hk1 _ _ => ?_)
  · exact Next.mk 0 ⟨by omega, fun i hi => by omega⟩ (by (try simp (disch := first | omega | (simp only [go_sem]; first | done | omega)) only [go_sem]); (first | refine WkL.eq ?_ ?_ | refine WkL.rest (by assumption) ?_ ?_ ?_ | refine WkL.keepL (by assumption) rfl ?_ ?_ ?_ ?_) <;> first | rfl | (simp; done) | (simp; omega) | (simp only [List.cons.injEq, AV.c.injEq, AC.int.injEq, AC.bool.injEq, AC.str.injEq, and_true, true_and, Int.natCast_add, Int.natCast_one, Int.cast_ofNat_Int]; omega) | (simp [AV.ok, AV.ok1, AC.ok]; done) | (simp [AV.ok, AV.ok1, AC.ok]; omega) | (simp only [List.forall_mem_cons, List.not_mem_nil, false_implies, implies_true, and_true]; (repeat' apply And.intro) <;> first | exact okN_map (fun x => by simp [go_sem, AC.pure]) | exact okN_grO (fun x => by simp [go_sem, AC.pure]) | (simp [AObj.okN, AC.ok]; done) | (simp [AObj.okN, AC.ok]; omega)) | (simp [*]; done) | grind)
  obtain ⟨hk1, hk2⟩ := hk1
  by_cases hlt : k < s.size
  · simp (disch := first | omega | (simp only [go_sem]; first | done | omega)) only [go_sem, hlt]
    refine indexByte_a t (byteAt s k) ?_
    simp (disch := first | omega | (simp only [go_sem]; first | done | omega)) only [go_sem]
    refine acond_d (fun c => ?_) (fun c => ?_)
    · have hf : decide (onlyB s t) = false := by
        rw [decide_eq_false_iff_not]
        exact fun h => by have := h k hlt; omega
      rw [hf] at hk
      simp (disch := first | omega | (simp only [go_sem]; first | done | omega)) only [go_sem]
      exact Ret.same (Nat.le_refl _) hk
    · simp (disch := first | omega | (simp only [go_sem]; first | done | omega)) only [go_sem]
      refine Next.mk (k + 1) ⟨⟨by omega, fun i hi => ?_⟩, by omega⟩ (by (try simp (disch := first | omega | (simp only [go_sem]; first | done | omega)) only [go_sem]); (first | refine WkL.eq ?_ ?_ | refine WkL.rest (by assumption) ?_ ?_ ?_ | refine WkL.keepL (by assumption) rfl ?_ ?_ ?_ ?_) <;> first | rfl | (simp; done) | (simp; omega) | (simp only [List.cons.injEq, AV.c.injEq, AC.int.injEq, AC.bool.injEq, AC.str.injEq, and_true, true_and, Int.natCast_add, Int.natCast_one, Int.cast_ofNat_Int]; omega) | (simp [AV.ok, AV.ok1, AC.ok]; done) | (simp [AV.ok, AV.ok1, AC.ok]; omega) | (simp only [List.forall_mem_cons, List.not_mem_nil, false_implies, implies_true, and_true]; (repeat' apply And.intro) <;> first | exact okN_map (fun x => by simp [go_sem, AC.pure]) | exact okN_grO (fun x => by simp [go_sem, AC.pure]) | (simp [AObj.okN, AC.ok]; done) | (simp [AObj.okN, AC.ok]; omega)) | (simp [*]; done) | grind)
      rcases Nat.lt_or_ge i k with h | h
      · exact hk2 i h
      · obtain rfl : i = k := by omega
        omega
  · simp (disch := first | omega | (simp only [go_sem]; first | done | omega)) only [go_sem, hlt]
    rw [show decide (onlyB s t) = true from decide_eq_true (fun i hi => hk2 i (by omega))] at hk
    exact Ret.same (Nat.le_refl _) hk
theorem only_smalls : ∀ n : Fin 256, (0 ≤ Lib.indexByte [97, 98, 99, 100, 101, 102, 103, 104, 105, 106, 107, 108, 109, 110, 111, 112, 113, 114, 115, 116, 117, 118, 119, 120, 121, 122] n.val.toUInt8 ↔ 97 ≤ n.val ∧ n.val ≤ 122) := by decide +kernel
theorem only_keys : ∀ n : Fin 256, (0 ≤ Lib.indexByte [97, 98, 99, 100, 101, 102, 103, 104, 105, 106, 107, 108, 109, 110, 111, 112, 113, 114, 115, 116, 117, 118, 119, 120, 121, 122, 48, 49, 50, 51, 52, 53, 54, 55, 56, 57, 45, 95] n.val.toUInt8 ↔ keyN n.val) := by decide +kernel
theorem byteAt_take (s : ByteArray) (i : Nat) (h : i < 1) (hs : 1 ≤ s.size) : byteAt (s.extract 0 1) i = byteAt s i := by
  obtain rfl : i = 0 := by omega
  unfold byteAt
  congr 2
  obtain ⟨⟨l⟩⟩ := s
  cases l with
  | nil => simp [ByteArray.size] at hs
  | cons x xs => simp [ByteArray.extract, ByteArray.copySlice]
theorem keyR_a (s : ByteArray) (hs : s.size ≤ 1099511627776) (hk : K (.c (.bool (decide (isKey s)))) H) : ACalls Tryz.prog 112 [(.c (.str s))] H K := by
  by_cases h1 : 1 ≤ s.size ∧ s.size ≤ 40
  · refine acalls Tryz.func112 rfl (by kernel_rfl) (by simp (disch := first | omega | (simp only [go_sem]; first | done | omega)) only [go_sem]) (fun hH => ?_)
    simp (disch := first | omega | (simp only [go_sem]; first | done | omega)) only [go_sem]
    refine in_a _ _ _ _ _ ?_
    have hsz : (s.extract 0 1).size = 1 := by simp [ByteArray.size_extract]; omega
    have b0 := byteAt_bd s 0
    have e1 : onlyB (s.extract 0 1) ⟨#[97, 98, 99, 100, 101, 102, 103, 104, 105, 106, 107, 108, 109, 110, 111, 112, 113, 114, 115, 116, 117, 118, 119, 120, 121, 122]⟩ ↔ 97 ≤ byteAt s 0 ∧ byteAt s 0 ≤ 122 := by
      have h3 := only_smalls ⟨(byteAt s 0).toNat, by omega⟩
      unfold onlyB
      rw [hsz]
      constructor
      · intro h
        have h4 := h 0 (by omega)
        rw [byteAt_take s 0 (by omega) h1.1] at h4
        have := h3.1 h4
        dsimp only at this
        omega
      · intro h i hi
        rw [byteAt_take s i hi h1.1]
        obtain rfl : i = 0 := by omega
        exact h3.2 (by dsimp only; omega)
    have e2 : onlyB s ⟨#[97, 98, 99, 100, 101, 102, 103, 104, 105, 106, 107, 108, 109, 110, 111, 112, 113, 114, 115, 116, 117, 118, 119, 120, 121, 122, 48, 49, 50, 51, 52, 53, 54, 55, 56, 57, 45, 95]⟩ ↔ ∀ i, i < s.size → keyN (byteAt s i) := by
      have h3 : ∀ i, (0 ≤ Lib.indexByte [97, 98, 99, 100, 101, 102, 103, 104, 105, 106, 107, 108, 109, 110, 111, 112, 113, 114, 115, 116, 117, 118, 119, 120, 121, 122, 48, 49, 50, 51, 52, 53, 54, 55, 56, 57, 45, 95] (byteAt s i).toNat.toUInt8 ↔ keyN (byteAt s i)) := fun i => by
        have b := byteAt_bd s i
        have := only_keys ⟨(byteAt s i).toNat, by omega⟩
        dsimp only at this
        rw [this]
        simp only [keyN]
        omega
      unfold onlyB
      exact ⟨fun h i hi => (h3 i).1 (h i hi), fun h i hi => (h3 i).2 (h i hi)⟩
    simp (disch := first | omega | (simp only [go_sem]; first | done | omega)) only [go_sem, h1]
    refine only_a (s.extract 0 1) _ (by omega) ?_
    by_cases h2 : 97 ≤ byteAt s 0 ∧ byteAt s 0 ≤ 122
    · rw [decide_eq_true (e1.2 h2)]
      simp (disch := first | omega | (simp only [go_sem]; first | done | omega)) only [go_sem, h1]
      refine only_a s _ hs ?_
      have e3 : decide (onlyB s ⟨#[97, 98, 99, 100, 101, 102, 103, 104, 105, 106, 107, 108, 109, 110, 111, 112, 113, 114, 115, 116, 117, 118, 119, 120, 121, 122, 48, 49, 50, 51, 52, 53, 54, 55, 56, 57, 45, 95]⟩) = decide (isKey s) := by
        rw [decide_eq_decide, e2]
        exact ⟨fun h => ⟨h1.1, h1.2, h2, h⟩, fun h => h.2.2.2⟩
      rw [e3]
      simp (disch := first | omega | (simp only [go_sem]; first | done | omega)) only [go_sem, h1]
      exact Ret.same (Nat.le_refl _) hk
    · rw [decide_eq_false (fun h => h2 (e1.1 h))]
      have hf : decide (isKey s) = false := by
        rw [decide_eq_false_iff_not]
        exact fun h => h2 h.2.2.1
      rw [hf] at hk
      simp (disch := first | omega | (simp only [go_sem]; first | done | omega)) only [go_sem, h1]
      exact Ret.same (Nat.le_refl _) hk
  · have hf : decide (isKey s) = false := by
      rw [decide_eq_false_iff_not]
      exact fun h => h1 ⟨h.1, h.2.1⟩
    rw [hf] at hk
    refine acalls Tryz.func112 rfl (by kernel_rfl) (by simp (disch := first | omega | (simp only [go_sem]; first | done | omega)) only [go_sem]) (fun hH => ?_)
    simp (disch := first | omega | (simp only [go_sem]; first | done | omega)) only [go_sem]
    refine in_a _ _ _ _ _ ?_
    have h2 : decide (1 ≤ (s.size : Int) ∧ (s.size : Int) ≤ 40) = false := by rw [decide_eq_false_iff_not]; omega
    simp (disch := first | omega | (simp only [go_sem]; first | done | omega)) only [go_sem, h2]
    exact Ret.same (Nat.le_refl _) hk
end Go.Proofs.YthgdllfkejlnmaaGreat
/- Holds: what is wrong with them, in the program and in the document's answer. Condition: keys are short. -/
namespace Go.Proofs.YthgdllfkejlnmaaGreat
open Go Go.RowKit
set_option maxRecDepth 100000
set_option linter.all false
set_option maxHeartbeats 1000000
variable {H : Hp} {K : AV → Hp → Prop}
structure Hold where
  key : ByteArray
  tag : ByteArray
  t0 : Int
  t1 : Int
  made : Int
  ends : Int
deriving DecidableEq
def encH (x : Hold) : List AC := [.str x.key, .str x.tag, .int .i64 x.t0, .int .i64 x.t1, .int .i64 x.made, .int .i64 x.ends]
attribute [go_sem, simp] encH
def leS (a b : ByteArray) : Bool := Op.bytesLess a.toList b.toList || decide (a = b)
@[go_sem] theorem leS_fold (a b : ByteArray) : (Op.bytesLess a.toList b.toList || decide (a = b)) = leS a b := (rfl)
def noS : ByteArray := ⟨#[]⟩
@[go_sem] theorem noS_fold : (⟨#[]⟩ : ByteArray) = noS := (rfl)
def Hold.short (x : Hold) : Prop := x.key.size ≤ 1000 ∧ x.tag.size ≤ 1000
def namesErr (x : Hold) : Int := if ¬isKey x.key ∨ (x.tag ≠ noS ∧ ¬isKey x.tag) then 5 else 0
def hdErr (i : Nat) (p x : Hold) : Int :=
  if namesErr x ≠ 0 then namesErr x
  else if 0 < i ∧ leS x.key p.key = true then 7
  else if x.t0 < 0 ∨ x.t1 ≤ x.t0 ∨ 345686400000 < x.t1 ∨ x.made < 0 ∨ x.ends ≤ x.made ∨ 345686400000 < x.ends then 1 else 0
def hold0 : Hold := ⟨noS, noS, 0, 0, 0, 0⟩
def hdF (l : List Hold) : Int := if 200 < l.length then 2 else errGo hdErr 0 hold0 l
theorem holdFault_a (x : Hold) (hs : x.short) (hk : K (.c (.int .i64 (namesErr x))) H) : ACalls Tryz.prog 200 [.agg (encH x)] H K := by
  obtain ⟨h1, h2⟩ := hs
  refine acalls Tryz.func200 rfl (by kernel_rfl) (by simp (disch := first | omega | (simp only [go_sem]; first | done | omega)) only [go_sem]) (fun hH => ?_)
  simp (disch := first | omega | (simp only [go_sem]; first | done | omega)) only [go_sem]
  repeat' (first | ((first | refine acond_d ?_ ?_ | refine acond_b ?_ ?_ | refine ag_d ?_ ?_ | refine ag_n ?_ ?_ | refine ag_bt ?_ ?_ | refine ag_bf ?_ ?_) <;> intro c <;> try simp (disch := first | omega | (simp only [go_sem]; first | done | omega)) only [go_sem, c]) | ((first | refine w_draw (by kernel_rfl) (by decide +kernel) ?_ | refine key_a x.key (by omega) ?_ | refine key_a x.tag (by omega) ?_) <;> try simp (disch := first | omega | (simp only [go_sem]; first | done | omega)) only [go_sem]))
  all_goals (first | refine Ret.sameE (Nat.le_refl _) (by assumption) ?_ | refine Ret.dropE (by assumption) (Nat.le_refl _) (by assumption) (by simp [AV.ok, AV.ok1, AC.ok]) ?_) <;> grind [namesErr]
theorem checkHolds_a (l : List Hold) (hlen : l.length ≤ 1099511627776) (hs : ∀ x ∈ l, x.short) (hk : K (.c (.int .i64 (hdF l))) H) : ACalls Tryz.prog 156 [.c (.lst 6 (l.map encH))] H K := by
  by_cases h6 : 200 < l.length
  · refine acalls Tryz.func156 rfl (by kernel_rfl) (by simp (disch := first | omega | (simp only [go_sem]; first | done | omega)) only [go_sem]) (fun hH => ?_)
    simp (disch := first | omega | (simp only [go_sem]; first | done | omega)) only [go_sem]
    (first | refine Ret.sameE (Nat.le_refl _) (by assumption) ?_ | refine Ret.dropE (by assumption) (Nat.le_refl _) (by assumption) (by simp [AV.ok, AV.ok1, AC.ok]) ?_) <;> simp [hdF, h6]
  have hF : hdF l = errGo hdErr 0 hold0 l := by simp [hdF, h6]
  refine acalls Tryz.func156 rfl (by kernel_rfl) (by simp (disch := first | omega | (simp only [go_sem]; first | done | omega)) only [go_sem]) (fun hH => ?_)
  simp (disch := first | omega | (simp only [go_sem]; first | done | omega)) only [go_sem]
  refine AWp.loop (H.length) [0, 9, 10] [11] (fun (k : Nat) => k ≤ l.length ∧ errGo hdErr k (prv hold0 l k) (l.drop k) = errGo hdErr 0 hold0 l) (fun (k : Nat) => [(11, (.c (.int .i64 k)))]) (fun (k : Nat) => H) (fun (k : Nat) => l.length - k) (by kernel_rfl) (fun _ => rfl) (by kernel_rfl) (by simp) (by first | (simp; done) | (simp; omega)) (by (try simp only [List.forall_mem_cons, List.not_mem_nil, false_implies, implies_true, and_true]); (try simp (disch := first | omega | (simp only [go_sem]; first | done | omega)) only [go_sem]); all_goals first | trivial | (simp [AV.ok, AV.ok1, AC.ok]; done) | (simp [AV.ok, AV.ok1, AC.ok]; omega) | (simp [AV.ok, AV.ok1, AC.ok]; assumption) | ((repeat' apply And.intro) <;> first | trivial | (simp [AV.ok, AV.ok1, AC.ok]; done) | (simp [AV.ok, AV.ok1, AC.ok]; omega) | (simp [AV.ok, AV.ok1, AC.ok]; assumption) | (refine grV_ok ?_ _; first | (simp; done) | (simp; omega) | omega))) ?_ (fun k hk1 _ _ => ?_)
  · exact Next.mk 0 ⟨by omega, rfl⟩ (by (try simp (disch := first | omega | (simp only [go_sem]; first | done | omega)) only [go_sem]); (first | refine WkL.eq ?_ ?_ | refine WkL.rest (by assumption) ?_ ?_ ?_ | refine WkL.keepL (by assumption) rfl ?_ ?_ ?_ ?_) <;> first | rfl | (simp; done) | (simp; omega) | (simp only [List.cons.injEq, AV.c.injEq, AC.int.injEq, AC.bool.injEq, AC.str.injEq, and_true, true_and, Int.natCast_add, Int.natCast_one, Int.cast_ofNat_Int]; omega) | (simp [AV.ok, AV.ok1, AC.ok]; done) | (simp [AV.ok, AV.ok1, AC.ok]; omega) | (simp only [List.forall_mem_cons, List.not_mem_nil, false_implies, implies_true, and_true]; (repeat' apply And.intro) <;> first | exact okN_map (fun x => by simp [go_sem, AC.pure]) | exact okN_grO (fun x => by simp [go_sem, AC.pure]) | (simp [AObj.okN, AC.ok]; done) | (simp [AObj.okN, AC.ok]; omega)) | (simp [*]; done) | grind)
  obtain ⟨hk1, hk2⟩ := hk1
  by_cases hlt : k < l.length
  · have hst := errGo_step hdErr hold0 l k hlt
    have hp : ∀ h : 0 < k, prv hold0 l k = l[((k : Int) - 1).toNat]'(by omega) := fun h => by rw [prv_pos _ _ _ hk1 h]; congr 1; omega
    have hv : hdErr k (prv hold0 l k) l[k] ≠ 0 → hdErr k (prv hold0 l k) l[k] = hdF l := fun h => by rw [hF, ← hk2, hst, if_neg h]
    have hn : hdErr k (prv hold0 l k) l[k] = 0 → errGo hdErr (k + 1) (prv hold0 l (k + 1)) (l.drop (k + 1)) = errGo hdErr 0 hold0 l := fun h => by rw [← hk2, hst, if_pos h]
    have hsk := hs l[k] (List.getElem_mem hlt)
    clear hst hF
    simp (disch := first | omega | (simp only [go_sem]; first | done | omega)) only [go_sem, hlt]
    repeat' (first | ((first | refine acond_d ?_ ?_ | refine acond_b ?_ ?_ | refine ag_d ?_ ?_ | refine ag_n ?_ ?_ | refine ag_bt ?_ ?_ | refine ag_bf ?_ ?_) <;> intro c <;> try simp (disch := first | omega | (simp only [go_sem]; first | done | omega)) only [go_sem, c]) | ((first | refine w_draw (by kernel_rfl) (by decide +kernel) ?_ | refine holdFault_a _ hsk ?_) <;> try simp (disch := first | omega | (simp only [go_sem]; first | done | omega)) only [go_sem]))
    all_goals first
      | (refine Next.mk (k + 1) (by grind [hdErr]) ?_; (try simp (disch := first | omega | (simp only [go_sem]; first | done | omega)) only [go_sem]); (first | refine WkL.eq ?_ ?_ | refine WkL.rest (by assumption) ?_ ?_ ?_ | refine WkL.keepL (by assumption) rfl ?_ ?_ ?_ ?_) <;> first | rfl | (simp; done) | (simp; omega) | (simp only [List.cons.injEq, AV.c.injEq, AC.int.injEq, AC.bool.injEq, AC.str.injEq, and_true, true_and, Int.natCast_add, Int.natCast_one, Int.cast_ofNat_Int]; omega) | (simp [AV.ok, AV.ok1, AC.ok]; done) | (simp [AV.ok, AV.ok1, AC.ok]; omega) | (simp only [List.forall_mem_cons, List.not_mem_nil, false_implies, implies_true, and_true]; (repeat' apply And.intro) <;> first | exact okN_map (fun x => by simp [go_sem, AC.pure]) | exact okN_grO (fun x => by simp [go_sem, AC.pure]) | (simp [AObj.okN, AC.ok]; done) | (simp [AObj.okN, AC.ok]; omega)) | (simp [*]; done) | grind)
      | (first | refine Ret.sameE (Nat.le_refl _) (by assumption) ?_ | refine Ret.dropE (by assumption) (Nat.le_refl _) (by assumption) (by simp [AV.ok, AV.ok1, AC.ok]) ?_) <;> grind [hdErr]
  · simp (disch := first | omega | (simp only [go_sem]; first | done | omega)) only [go_sem, hlt]
    have := errGo_end hdErr (prv hold0 l k) l k (by omega)
    (first | refine Ret.sameE (Nat.le_refl _) (by assumption) ?_ | refine Ret.dropE (by assumption) (Nat.le_refl _) (by assumption) (by simp [AV.ok, AV.ok1, AC.ok]) ?_) <;> (first | rfl | (simp only [AV.c.injEq, AC.bool.injEq]; rw [Bool.eq_iff_iff]; simp only [Bool.not_eq_true', decide_eq_true_eq, decide_eq_false_iff_not, Bool.and_eq_true, Bool.or_eq_true]; omega) | grind | (simp [*]; done) | (simp [*]; omega))
theorem leS_no {s : ByteArray} (h : isKey s) : leS s noS = false := by
  have h1 : s.size ≠ 0 := by have := h.1; omega
  have h2 : s ≠ noS := fun h' => h1 (size_zero.1 h')
  unfold leS
  rw [decide_eq_false h2, Bool.or_false, ByteArray.toList_eq, ByteArray.toList_eq]
  show Op.bytesLess s.data.toList [] = false
  cases s.data.toList <;> rfl
theorem timeFault_a (a b : Int) (hk : K (.c (.int .i64 (if a < 0 ∨ b ≤ a ∨ 345686400000 < b then 1 else 0))) H) : ACalls Tryz.prog 166 [.agg [.int .i64 a, .int .i64 b]] H K := by
  refine acalls Tryz.func166 rfl (by kernel_rfl) (by simp (disch := first | omega | (simp only [go_sem]; first | done | omega)) only [go_sem]) (fun hH => ?_)
  simp (disch := first | omega | (simp only [go_sem]; first | done | omega)) only [go_sem]
  repeat' (first | ((first | refine acond_d ?_ ?_ | refine acond_b ?_ ?_ | refine ag_d ?_ ?_ | refine ag_n ?_ ?_ | refine ag_bt ?_ ?_ | refine ag_bf ?_ ?_) <;> intro c <;> try simp (disch := first | omega | (simp only [go_sem]; first | done | omega)) only [go_sem, c]) | ((first | refine w_draw (by kernel_rfl) (by decide +kernel) ?_) <;> try simp (disch := first | omega | (simp only [go_sem]; first | done | omega)) only [go_sem]))
  all_goals (first | refine Ret.sameE (Nat.le_refl _) (by assumption) ?_ | refine Ret.dropE (by assumption) (Nat.le_refl _) (by assumption) (by simp [AV.ok, AV.ok1, AC.ok]) ?_) <;> (first | rfl | (simp only [AV.c.injEq, AC.bool.injEq]; rw [Bool.eq_iff_iff]; simp only [Bool.not_eq_true', decide_eq_true_eq, decide_eq_false_iff_not, Bool.and_eq_true, Bool.or_eq_true]; omega) | grind | (simp [*]; done) | (simp [*]; omega))
theorem holdsFault_a (l : List Hold) (hlen : l.length ≤ 1099511627776) (hs : ∀ x ∈ l, x.short) (hk : K (.c (.int .i64 (hdF l))) H) : ACalls Tryz.prog 95 [.c (.lst 6 (l.map encH))] H K := by
  by_cases h6 : 200 < l.length
  · refine acalls Tryz.func95 rfl (by kernel_rfl) (by simp (disch := first | omega | (simp only [go_sem]; first | done | omega)) only [go_sem]) (fun hH => ?_)
    simp (disch := first | omega | (simp only [go_sem]; first | done | omega)) only [go_sem]
    (first | refine Ret.sameE (Nat.le_refl _) (by assumption) ?_ | refine Ret.dropE (by assumption) (Nat.le_refl _) (by assumption) (by simp [AV.ok, AV.ok1, AC.ok]) ?_) <;> simp [hdF, h6]
  have hF : hdF l = errGo hdErr 0 hold0 l := by simp [hdF, h6]
  refine acalls Tryz.func95 rfl (by kernel_rfl) (by simp (disch := first | omega | (simp only [go_sem]; first | done | omega)) only [go_sem]) (fun hH => ?_)
  simp (disch := first | omega | (simp only [go_sem]; first | done | omega)) only [go_sem]
  refine AWp.loop (H.length) [9, 10] [11, 3] (fun (k : Nat) => k ≤ l.length ∧ errGo hdErr k (prv hold0 l k) (l.drop k) = errGo hdErr 0 hold0 l) (fun (k : Nat) => [(11, (.c (.int .i64 k))), (3, (.c (.str ((prv hold0 l k).key))))]) (fun (k : Nat) => H) (fun (k : Nat) => l.length - k) (by kernel_rfl) (fun _ => rfl) (by kernel_rfl) (by simp) (by first | (simp; done) | (simp; omega)) (by (try simp only [List.forall_mem_cons, List.not_mem_nil, false_implies, implies_true, and_true]); (try simp (disch := first | omega | (simp only [go_sem]; first | done | omega)) only [go_sem]); all_goals first | trivial | (simp [AV.ok, AV.ok1, AC.ok]; done) | (simp [AV.ok, AV.ok1, AC.ok]; omega) | (simp [AV.ok, AV.ok1, AC.ok]; assumption) | ((repeat' apply And.intro) <;> first | trivial | (simp [AV.ok, AV.ok1, AC.ok]; done) | (simp [AV.ok, AV.ok1, AC.ok]; omega) | (simp [AV.ok, AV.ok1, AC.ok]; assumption) | (refine grV_ok ?_ _; first | (simp; done) | (simp; omega) | omega))) ?_ (fun k hk1 _ _ => ?_)
  · exact Next.mk 0 ⟨by omega, rfl⟩ (by (try simp (disch := first | omega | (simp only [go_sem]; first | done | omega)) only [go_sem]); (first | refine WkL.eq ?_ ?_ | refine WkL.rest (by assumption) ?_ ?_ ?_ | refine WkL.keepL (by assumption) rfl ?_ ?_ ?_ ?_) <;> first | rfl | (simp; done) | (simp; omega) | (simp only [List.cons.injEq, AV.c.injEq, AC.int.injEq, AC.bool.injEq, AC.str.injEq, and_true, true_and, Int.natCast_add, Int.natCast_one, Int.cast_ofNat_Int]; omega) | (simp [AV.ok, AV.ok1, AC.ok]; done) | (simp [AV.ok, AV.ok1, AC.ok]; omega) | (simp only [List.forall_mem_cons, List.not_mem_nil, false_implies, implies_true, and_true]; (repeat' apply And.intro) <;> first | exact okN_map (fun x => by simp [go_sem, AC.pure]) | exact okN_grO (fun x => by simp [go_sem, AC.pure]) | (simp [AObj.okN, AC.ok]; done) | (simp [AObj.okN, AC.ok]; omega)) | (simp [*]; done) | grind)
  obtain ⟨hk1, hk2⟩ := hk1
  by_cases hlt : k < l.length
  · have hst := errGo_step hdErr hold0 l k hlt
    have hp : k = 0 → (prv hold0 l k).key = noS := fun h => by subst h; rfl
    have hq : isKey l[k].key → k = 0 → leS l[k].key (prv hold0 l k).key = false := fun h1 h2 => by rw [hp h2]; exact leS_no h1
    have hv : hdErr k (prv hold0 l k) l[k] ≠ 0 → hdErr k (prv hold0 l k) l[k] = hdF l := fun h => by rw [hF, ← hk2, hst, if_neg h]
    have hn : hdErr k (prv hold0 l k) l[k] = 0 → errGo hdErr (k + 1) (prv hold0 l (k + 1)) (l.drop (k + 1)) = errGo hdErr 0 hold0 l := fun h => by rw [← hk2, hst, if_pos h]
    obtain ⟨hs1, hs2⟩ := hs l[k] (List.getElem_mem hlt)
    have hnx : (prv hold0 l (k + 1)).key = l[k].key := by rw [prv_succ _ _ _ hlt]
    clear hst hF hp
    simp (disch := first | omega | (simp only [go_sem]; first | done | omega)) only [go_sem, hlt]
    repeat' (first | ((first | refine acond_d ?_ ?_ | refine acond_b ?_ ?_ | refine ag_d ?_ ?_ | refine ag_n ?_ ?_ | refine ag_bt ?_ ?_ | refine ag_bf ?_ ?_) <;> intro c <;> try simp (disch := first | omega | (simp only [go_sem]; first | done | omega)) only [go_sem, c]) | ((first | refine w_draw (by kernel_rfl) (by decide +kernel) ?_ | refine keyR_a l[k].key (by omega) ?_ | refine keyR_a l[k].tag (by omega) ?_ | refine timeFault_a _ _ ?_) <;> try simp (disch := first | omega | (simp only [go_sem]; first | done | omega)) only [go_sem]))
    all_goals first
      | (refine Next.mk (k + 1) (by grind [hdErr, namesErr]) ?_; rw [hnx]; (try simp (disch := first | omega | (simp only [go_sem]; first | done | omega)) only [go_sem]); (first | refine WkL.eq ?_ ?_ | refine WkL.rest (by assumption) ?_ ?_ ?_ | refine WkL.keepL (by assumption) rfl ?_ ?_ ?_ ?_) <;> first | rfl | (simp; done) | (simp; omega) | (simp only [List.cons.injEq, AV.c.injEq, AC.int.injEq, AC.bool.injEq, AC.str.injEq, and_true, true_and, Int.natCast_add, Int.natCast_one, Int.cast_ofNat_Int]; omega) | (simp [AV.ok, AV.ok1, AC.ok]; done) | (simp [AV.ok, AV.ok1, AC.ok]; omega) | (simp only [List.forall_mem_cons, List.not_mem_nil, false_implies, implies_true, and_true]; (repeat' apply And.intro) <;> first | exact okN_map (fun x => by simp [go_sem, AC.pure]) | exact okN_grO (fun x => by simp [go_sem, AC.pure]) | (simp [AObj.okN, AC.ok]; done) | (simp [AObj.okN, AC.ok]; omega)) | (simp [*]; done) | grind)
      | (first | refine Ret.sameE (Nat.le_refl _) (by assumption) ?_ | refine Ret.dropE (by assumption) (Nat.le_refl _) (by assumption) (by simp [AV.ok, AV.ok1, AC.ok]) ?_) <;> grind [hdErr, namesErr]
  · simp (disch := first | omega | (simp only [go_sem]; first | done | omega)) only [go_sem, hlt]
    have := errGo_end hdErr (prv hold0 l k) l k (by omega)
    (first | refine Ret.sameE (Nat.le_refl _) (by assumption) ?_ | refine Ret.dropE (by assumption) (Nat.le_refl _) (by assumption) (by simp [AV.ok, AV.ok1, AC.ok]) ?_) <;> (first | rfl | (simp only [AV.c.injEq, AC.bool.injEq]; rw [Bool.eq_iff_iff]; simp only [Bool.not_eq_true', decide_eq_true_eq, decide_eq_false_iff_not, Bool.and_eq_true, Bool.or_eq_true]; omega) | grind | (simp [*]; done) | (simp [*]; omega))
end Go.Proofs.YthgdllfkejlnmaaGreat
/- What holds hold. Condition: keys are short. -/
namespace Go.Proofs.YthgdllfkejlnmaaGreat
open Go Go.RowKit
set_option maxRecDepth 100000
set_option linter.all false
set_option maxHeartbeats 1000000
variable {H : Hp} {K : AV → Hp → Prop}
def tagE (t : ByteArray) : Int := if isKey t then 0 else 5
def momE (m a : Int) : Int := if 0 ≤ m ∧ m ≤ 345686399999 ∧ 0 ≤ a ∧ a ≤ 345686399999 ∧ m ≤ a then 0 else 1
theorem tagFault_a (t : ByteArray) (hs : t.size ≤ 1000) (hk : K (.c (.int .i64 (tagE t))) H) : ACalls Tryz.prog 157 [(.c (.str t))] H K := by
  refine acalls Tryz.func157 rfl (by kernel_rfl) (by simp (disch := first | omega | (simp only [go_sem]; first | done | omega)) only [go_sem]) (fun hH => ?_)
  simp (disch := first | omega | (simp only [go_sem]; first | done | omega)) only [go_sem]
  repeat' (first | ((first | refine acond_d ?_ ?_ | refine acond_b ?_ ?_ | refine ag_d ?_ ?_ | refine ag_n ?_ ?_ | refine ag_bt ?_ ?_ | refine ag_bf ?_ ?_) <;> intro c <;> try simp (disch := first | omega | (simp only [go_sem]; first | done | omega)) only [go_sem, c]) | ((first | refine w_draw (by kernel_rfl) (by decide +kernel) ?_ | refine key_a t (by omega) ?_) <;> try simp (disch := first | omega | (simp only [go_sem]; first | done | omega)) only [go_sem]))
  all_goals (first | refine Ret.sameE (Nat.le_refl _) (by assumption) ?_ | refine Ret.dropE (by assumption) (Nat.le_refl _) (by assumption) (by simp [AV.ok, AV.ok1, AC.ok]) ?_) <;> simp [tagE, *]
theorem nameFault_a (t : ByteArray) (hs : t.size ≤ 1000) (hk : K (.c (.int .i64 (tagE t))) H) : ACalls Tryz.prog 61 [(.c (.str t))] H K := by
  refine acalls Tryz.func61 rfl (by kernel_rfl) (by simp (disch := first | omega | (simp only [go_sem]; first | done | omega)) only [go_sem]) (fun hH => ?_)
  simp (disch := first | omega | (simp only [go_sem]; first | done | omega)) only [go_sem]
  repeat' (first | ((first | refine acond_d ?_ ?_ | refine acond_b ?_ ?_ | refine ag_d ?_ ?_ | refine ag_n ?_ ?_ | refine ag_bt ?_ ?_ | refine ag_bf ?_ ?_) <;> intro c <;> try simp (disch := first | omega | (simp only [go_sem]; first | done | omega)) only [go_sem, c]) | ((first | refine w_draw (by kernel_rfl) (by decide +kernel) ?_ | refine keyR_a t (by omega) ?_ | refine when_a _ _ _ _ ?_) <;> try simp (disch := first | omega | (simp only [go_sem]; first | done | omega)) only [go_sem]))
  all_goals (first | refine Ret.sameE (Nat.le_refl _) (by assumption) ?_ | refine Ret.dropE (by assumption) (Nat.le_refl _) (by assumption) (by simp [AV.ok, AV.ok1, AC.ok]) ?_) <;> grind [tagE]
theorem momentFaultR_a (m : Int) (hk : K (.c (.int .i64 (if 0 ≤ m ∧ m ≤ 345686399999 then 0 else 1))) H) : ACalls Tryz.prog 25 [(.c (.int .i64 m))] H K := by
  refine acalls Tryz.func25 rfl (by kernel_rfl) (by simp (disch := first | omega | (simp only [go_sem]; first | done | omega)) only [go_sem]) (fun hH => ?_)
  simp (disch := first | omega | (simp only [go_sem]; first | done | omega)) only [go_sem]
  repeat' (first | ((first | refine acond_d ?_ ?_ | refine acond_b ?_ ?_ | refine ag_d ?_ ?_ | refine ag_n ?_ ?_ | refine ag_bt ?_ ?_ | refine ag_bf ?_ ?_) <;> intro c <;> try simp (disch := first | omega | (simp only [go_sem]; first | done | omega)) only [go_sem, c]) | ((first | refine w_draw (by kernel_rfl) (by decide +kernel) ?_ | refine momentR_a _ _ _ ?_) <;> try simp (disch := first | omega | (simp only [go_sem]; first | done | omega)) only [go_sem]))
  all_goals (first | refine Ret.sameE (Nat.le_refl _) (by assumption) ?_ | refine Ret.dropE (by assumption) (Nat.le_refl _) (by assumption) (by simp [AV.ok, AV.ok1, AC.ok]) ?_) <;> (first | rfl | (simp only [AV.c.injEq, AC.bool.injEq]; rw [Bool.eq_iff_iff]; simp only [Bool.not_eq_true', decide_eq_true_eq, decide_eq_false_iff_not, Bool.and_eq_true, Bool.or_eq_true]; omega) | grind | (simp [*]; done) | (simp [*]; omega))
theorem inW_a (a b t : Int) (hk : K (.c (.bool (decide (a ≤ t ∧ t < b)))) H) : ACalls Tryz.prog 90 [.agg [.int .i64 a, .int .i64 b], (.c (.int .i64 t))] H K := by
  refine acalls Tryz.func90 rfl (by kernel_rfl) (by simp (disch := first | omega | (simp only [go_sem]; first | done | omega)) only [go_sem]) (fun hH => ?_)
  simp (disch := first | omega | (simp only [go_sem]; first | done | omega)) only [go_sem]
  repeat' (first | ((first | refine acond_d ?_ ?_ | refine acond_b ?_ ?_ | refine ag_d ?_ ?_ | refine ag_n ?_ ?_ | refine ag_bt ?_ ?_ | refine ag_bf ?_ ?_) <;> intro c <;> try simp (disch := first | omega | (simp only [go_sem]; first | done | omega)) only [go_sem, c]) | ((first | refine w_draw (by kernel_rfl) (by decide +kernel) ?_) <;> try simp (disch := first | omega | (simp only [go_sem]; first | done | omega)) only [go_sem]))
  all_goals (first | refine Ret.sameE (Nat.le_refl _) (by assumption) ?_ | refine Ret.dropE (by assumption) (Nat.le_refl _) (by assumption) (by simp [AV.ok, AV.ok1, AC.ok]) ?_) <;> (first | rfl | (simp only [AV.c.injEq, AC.bool.injEq]; rw [Bool.eq_iff_iff]; simp only [Bool.not_eq_true', decide_eq_true_eq, decide_eq_false_iff_not, Bool.and_eq_true, Bool.or_eq_true]; omega) | grind | (simp [*]; done) | (simp [*]; omega))
def ofF (h : List Hold) (tag : ByteArray) : List Hold := h.filter (fun x => decide (x.tag = noS ∨ x.tag = tag))
theorem of_a (h : List Hold) (tag : ByteArray) (hlen : h.length ≤ 1000) (hk : K (.c (.lst 6 ((ofF h tag).map encH))) H) : ACalls Tryz.prog 87 [.c (.lst 6 (h.map encH)), (.c (.str tag))] H K := by
  refine acalls Tryz.func87 rfl (by kernel_rfl) (by simp (disch := first | omega | (simp only [go_sem]; first | done | omega)) only [go_sem]) (fun hH => ?_)
  simp (disch := first | omega | (simp only [go_sem]; first | done | omega)) only [go_sem]
  refine AWp.loop (H.length) [1, 8, 9] [10, 5] (fun (k : Nat) => k ≤ h.length) (fun (k : Nat) => [(10, (.c (.int .i64 k))), (5, .c (grV H.length (ofF (h.take k) tag)))]) (fun (k : Nat) => H ++ [grO 130 6 ((ofF (h.take k) tag).map encH)]) (fun (k : Nat) => h.length - k) (by kernel_rfl) (fun _ => rfl) (by kernel_rfl) (by simp) (by first | (simp; done) | (simp; omega)) (by (try simp only [List.forall_mem_cons, List.not_mem_nil, false_implies, implies_true, and_true]); (try simp (disch := first | omega | (simp only [go_sem]; first | done | omega)) only [go_sem]); all_goals first | trivial | (simp [AV.ok, AV.ok1, AC.ok]; done) | (simp [AV.ok, AV.ok1, AC.ok]; omega) | (simp [AV.ok, AV.ok1, AC.ok]; assumption) | ((repeat' apply And.intro) <;> first | trivial | (simp [AV.ok, AV.ok1, AC.ok]; done) | (simp [AV.ok, AV.ok1, AC.ok]; omega) | (simp [AV.ok, AV.ok1, AC.ok]; assumption) | (refine grV_ok ?_ _; first | (simp; done) | (simp; omega) | omega))) ?_ (fun k hkb _ _ => ?_)
  · exact Next.mk 0 (by omega) (WkL.pad (by simp))
  have hfl : (ofF (h.take k) tag).length ≤ 1000 := by
    have h1 := List.length_filter_le (fun x : Hold => decide (x.tag = noS ∨ x.tag = tag)) (h.take k)
    have h2 : (h.take k).length ≤ h.length := by rw [List.length_take]; omega
    unfold ofF; omega
  by_cases hlt : k < h.length
  · have hn : ofF (h.take (k + 1)) tag = ofF (h.take k) tag ++ (if h[k].tag = noS ∨ h[k].tag = tag then [h[k]] else []) := by
      rw [List.take_succ_eq_append_getElem hlt, ofF, List.filter_append]
      congr 1
      by_cases c : h[k].tag = noS ∨ h[k].tag = tag <;> simp [c]
    simp (disch := first | omega | (simp only [go_sem]; first | done | omega)) only [go_sem]
    repeat' (first | ((first | refine acond_d ?_ ?_ | refine acond_b ?_ ?_ | refine ag_d ?_ ?_ | refine ag_n ?_ ?_ | refine ag_bt ?_ ?_ | refine ag_bf ?_ ?_) <;> intro c <;> try simp (disch := first | omega | (simp only [go_sem]; first | done | omega)) only [go_sem, c]) | ((first | refine w_draw (by kernel_rfl) (by decide +kernel) ?_) <;> try simp (disch := first | omega | (simp only [go_sem]; first | done | omega)) only [go_sem]))
    all_goals first
      | ((refine app_gr (enc := encH) (e := 130) (sz := 6) (bs := 64) (z := [.str ⟨#[]⟩, .str ⟨#[]⟩, .int .i64 0, .int .i64 0, .int .i64 0, .int .i64 0]) (ofF (h.take k) tag) (h[k]) (by kernel_rfl) (by kernel_rfl) (by kernel_rfl) (by kernel_rfl) (by first | exact at0 (by simp) | exact at1 (by simp) | exact at2 (by simp) | exact at3 (by simp) | exact at4 (by simp) | exact at5 (by simp) | exact atG 6 (by simp) rfl | exact atG 7 (by simp) rfl | exact atG 8 (by simp) rfl | exact atG 9 (by simp) rfl | exact atG 10 (by simp) rfl | assumption) (by first | (simp (disch := first | omega | (simp only [go_sem]; first | done | omega)) only [go_sem]; done) | (simp (disch := first | omega | (simp only [go_sem]; first | done | omega)) only [go_sem]; rfl) | (simp (disch := first | omega | (simp only [go_sem]; first | done | omega)) only [go_sem]; simp [go_sem]; done) | (simp (disch := first | omega | (simp only [go_sem]; first | done | omega)) only [go_sem]; simp [*]; done)) rfl (by decide) (by omega) (by omega) (by rfl) ?_)
         rw [if_pos (by first | exact .inl c | exact .inr c)] at hn
         simp (disch := first | omega | (simp only [go_sem]; first | done | omega)) only [go_sem]
         exact Next.mk (k + 1) ⟨by omega, by omega⟩ (by rw [hn]; ((try simp (disch := first | omega | (simp only [go_sem]; first | done | omega)) only [go_sem]); (first | refine WkL.pick [0] ?_ ?_ rfl ?_ ?_ ?_ ?_ | refine WkL.pick [1] ?_ ?_ rfl ?_ ?_ ?_ ?_ | refine WkL.pick [2] ?_ ?_ rfl ?_ ?_ ?_ ?_ | refine WkL.pick [3] ?_ ?_ rfl ?_ ?_ ?_ ?_ | refine WkL.pick [4] ?_ ?_ rfl ?_ ?_ ?_ ?_ | refine WkL.pick [5] ?_ ?_ rfl ?_ ?_ ?_ ?_ | refine WkL.pick [6] ?_ ?_ rfl ?_ ?_ ?_ ?_ | refine WkL.pick [7] ?_ ?_ rfl ?_ ?_ ?_ ?_ | refine WkL.pick [8] ?_ ?_ rfl ?_ ?_ ?_ ?_ | refine WkL.pick [9] ?_ ?_ rfl ?_ ?_ ?_ ?_ | refine WkL.pick [10] ?_ ?_ rfl ?_ ?_ ?_ ?_ | refine WkL.pick [11] ?_ ?_ rfl ?_ ?_ ?_ ?_ | refine WkL.pick [12] ?_ ?_ rfl ?_ ?_ ?_ ?_ | refine WkL.pick [13] ?_ ?_ rfl ?_ ?_ ?_ ?_ | refine WkL.pick [14] ?_ ?_ rfl ?_ ?_ ?_ ?_ | refine WkL.pick [15] ?_ ?_ rfl ?_ ?_ ?_ ?_) <;> first | assumption | exact HOk.str (by assumption) | (simp; done) | (simp; omega) | (simp [pureO_gr, AObj.pureO, pureL, go_sem, AC.pure]; done) | (simp only [List.all_cons, List.all_nil, Bool.and_true]; exact pureO_gr (pureL_map _ (fun x => by simp [go_sem, AC.pure]))) | ((try simp only [List.map_cons, List.map_nil, av_ren_gr]); simp [AV.ren, AV.ren1, AC.ren, pickS]; first | done | omega) | (simp only [List.forall_mem_cons, List.not_mem_nil, false_implies, implies_true, and_true]; (repeat' apply And.intro) <;> first | trivial | exact grV_ok (by simp) _ | exact okN_grO (fun x => by simp [go_sem, AC.pure]) | exact okN_map (fun x => by simp [go_sem, AC.pure]) | (simp [AV.ok, AV.ok1, AC.ok]; done) | (simp [AV.ok, AV.ok1, AC.ok]; omega) | (simp [AObj.okN, AC.ok]; done)) | (simp [AObj.okN]; done))))
      | (rw [if_neg (by rintro (h1 | h1) <;> contradiction), List.append_nil] at hn
         exact Next.mk (k + 1) ⟨by omega, by omega⟩ (by rw [hn]; ((try simp (disch := first | omega | (simp only [go_sem]; first | done | omega)) only [go_sem]); (first | refine WkL.pick [0] ?_ ?_ rfl ?_ ?_ ?_ ?_ | refine WkL.pick [1] ?_ ?_ rfl ?_ ?_ ?_ ?_ | refine WkL.pick [2] ?_ ?_ rfl ?_ ?_ ?_ ?_ | refine WkL.pick [3] ?_ ?_ rfl ?_ ?_ ?_ ?_ | refine WkL.pick [4] ?_ ?_ rfl ?_ ?_ ?_ ?_ | refine WkL.pick [5] ?_ ?_ rfl ?_ ?_ ?_ ?_ | refine WkL.pick [6] ?_ ?_ rfl ?_ ?_ ?_ ?_ | refine WkL.pick [7] ?_ ?_ rfl ?_ ?_ ?_ ?_ | refine WkL.pick [8] ?_ ?_ rfl ?_ ?_ ?_ ?_ | refine WkL.pick [9] ?_ ?_ rfl ?_ ?_ ?_ ?_ | refine WkL.pick [10] ?_ ?_ rfl ?_ ?_ ?_ ?_ | refine WkL.pick [11] ?_ ?_ rfl ?_ ?_ ?_ ?_ | refine WkL.pick [12] ?_ ?_ rfl ?_ ?_ ?_ ?_ | refine WkL.pick [13] ?_ ?_ rfl ?_ ?_ ?_ ?_ | refine WkL.pick [14] ?_ ?_ rfl ?_ ?_ ?_ ?_ | refine WkL.pick [15] ?_ ?_ rfl ?_ ?_ ?_ ?_) <;> first | assumption | exact HOk.str (by assumption) | (simp; done) | (simp; omega) | (simp [pureO_gr, AObj.pureO, pureL, go_sem, AC.pure]; done) | (simp only [List.all_cons, List.all_nil, Bool.and_true]; exact pureO_gr (pureL_map _ (fun x => by simp [go_sem, AC.pure]))) | ((try simp only [List.map_cons, List.map_nil, av_ren_gr]); simp [AV.ren, AV.ren1, AC.ren, pickS]; first | done | omega) | (simp only [List.forall_mem_cons, List.not_mem_nil, false_implies, implies_true, and_true]; (repeat' apply And.intro) <;> first | trivial | exact grV_ok (by simp) _ | exact okN_grO (fun x => by simp [go_sem, AC.pure]) | exact okN_map (fun x => by simp [go_sem, AC.pure]) | (simp [AV.ok, AV.ok1, AC.ok]; done) | (simp [AV.ok, AV.ok1, AC.ok]; omega) | (simp [AObj.okN, AC.ok]; done)) | (simp [AObj.okN]; done))))
  · rw [List.take_of_length_le (by omega)]
    simp (disch := first | omega | (simp only [go_sem]; first | done | omega)) only [go_sem]
    exact Ret.frzGr 0 hH (Nat.le_refl _) rfl (pureL_map _ (fun x => by simp [AC.pure])) (map_grV _ _ _).symm hk
theorem indexH_a (f : FuncId) (caps : List (Nat × Nat × Nat)) (p : Hold → Bool) (he : entersB Tryz.prog f = true) (hc : ∀ (a b c : Nat), (a, b, c) ∈ caps → a < H.length) (l : List Hold) (hf : ∀ (x : Hold) (K : AV → Hp → Prop), x ∈ l → K (.c (.bool (p x))) H → ACalls Tryz.prog f (.agg (encH x) :: caps.map fun q => .c (.ptr (some q))) H K) (hlen : l.length ≤ 1099511627776) (hk : ∀ r : Int, (0 ≤ r ↔ l.any p = true) → K (.c (.int .i64 r)) H) : ACalls Tryz.prog 203 [.c (.lst 6 (l.map encH)), .c (.fn f [] caps)] H K := by
  refine acalls Tryz.func203 rfl (by kernel_rfl) (by simp (disch := first | omega | (simp only [go_sem]; first | done | omega)) only [go_sem]) (fun hH => ?_)
  simp (disch := first | omega | (simp only [go_sem]; first | done | omega)) only [go_sem]
  refine AWp.loop (H.length) [0, 1, 7] [8] (fun (k : Nat) => k ≤ l.length ∧ ∀ j (h : j < l.length), j < k → p l[j] = false) (fun (k : Nat) => [(8, (.c (.int .i64 k)))]) (fun (k : Nat) => H) (fun (k : Nat) => l.length - k) (by kernel_rfl) (fun _ => rfl) (by kernel_rfl) (by simp) (by first | (simp; done) | (simp; omega)) (by (try simp only [List.forall_mem_cons, List.not_mem_nil, false_implies, implies_true, and_true]); (try simp (disch := first | omega | (simp only [go_sem]; first | done | omega)) only [go_sem]); all_goals first | trivial | (simp [AV.ok, AV.ok1, AC.ok]; done) | (simp [AV.ok, AV.ok1, AC.ok]; omega) | (simp [AV.ok, AV.ok1, AC.ok]; assumption) | ((repeat' apply And.intro) <;> first | trivial | (simp [AV.ok, AV.ok1, AC.ok]; done) | (simp [AV.ok, AV.ok1, AC.ok]; omega) | (simp [AV.ok, AV.ok1, AC.ok]; assumption) | (refine grV_ok ?_ _; first | (simp; done) | (simp; omega) | omega))) ?_ (fun k hk1 _ _ => ?_)
  · exact Next.mk 0 (by simp) (by (try simp (disch := first | omega | (simp only [go_sem]; first | done | omega)) only [go_sem]); (first | refine WkL.eq ?_ ?_ | refine WkL.rest (by assumption) ?_ ?_ ?_ | refine WkL.keepL (by assumption) rfl ?_ ?_ ?_ ?_) <;> first | rfl | (simp; done) | (simp; omega) | (simp only [List.cons.injEq, AV.c.injEq, AC.int.injEq, AC.bool.injEq, AC.str.injEq, and_true, true_and, Int.natCast_add, Int.natCast_one, Int.cast_ofNat_Int]; omega) | (simp [AV.ok, AV.ok1, AC.ok]; done) | (simp [AV.ok, AV.ok1, AC.ok]; omega) | (simp only [List.forall_mem_cons, List.not_mem_nil, false_implies, implies_true, and_true]; (repeat' apply And.intro) <;> first | exact okN_map (fun x => by simp [go_sem, AC.pure]) | exact okN_grO (fun x => by simp [go_sem, AC.pure]) | (simp [AObj.okN, AC.ok]; done) | (simp [AObj.okN, AC.ok]; omega)) | (simp [*]; done) | grind)
  obtain ⟨hk1, hk2⟩ := hk1
  by_cases hlt : k < l.length
  · simp (disch := first | omega | (simp only [go_sem]; first | done | omega)) only [go_sem, he]
    refine hf l[k] _ (List.getElem_mem hlt) ?_
    simp (disch := first | omega | (simp only [go_sem]; first | done | omega)) only [go_sem]
    refine acond_b (fun c => ?_) (fun c => ?_)
    · simp (disch := first | omega | (simp only [go_sem]; first | done | omega)) only [go_sem]
      refine Ret.same (Nat.le_refl _) (hk k ?_)
      simp only [Int.natCast_nonneg, List.any_eq_true, true_iff]
      exact ⟨l[k], List.getElem_mem _, c⟩
    · simp (disch := first | omega | (simp only [go_sem]; first | done | omega)) only [go_sem]
      refine Next.mk (k + 1) ⟨⟨by omega, fun j h hj => ?_⟩, by omega⟩ (by (try simp (disch := first | omega | (simp only [go_sem]; first | done | omega)) only [go_sem]); (first | refine WkL.eq ?_ ?_ | refine WkL.rest (by assumption) ?_ ?_ ?_ | refine WkL.keepL (by assumption) rfl ?_ ?_ ?_ ?_) <;> first | rfl | (simp; done) | (simp; omega) | (simp only [List.cons.injEq, AV.c.injEq, AC.int.injEq, AC.bool.injEq, AC.str.injEq, and_true, true_and, Int.natCast_add, Int.natCast_one, Int.cast_ofNat_Int]; omega) | (simp [AV.ok, AV.ok1, AC.ok]; done) | (simp [AV.ok, AV.ok1, AC.ok]; omega) | (simp only [List.forall_mem_cons, List.not_mem_nil, false_implies, implies_true, and_true]; (repeat' apply And.intro) <;> first | exact okN_map (fun x => by simp [go_sem, AC.pure]) | exact okN_grO (fun x => by simp [go_sem, AC.pure]) | (simp [AObj.okN, AC.ok]; done) | (simp [AObj.okN, AC.ok]; omega)) | (simp [*]; done) | grind)
      rcases Nat.lt_or_ge j k with h1 | h1
      · exact hk2 j h h1
      · obtain rfl : j = k := by omega
        simpa using c
  · simp (disch := first | omega | (simp only [go_sem]; first | done | omega)) only [go_sem]
    refine Ret.same (Nat.le_refl _) (hk (-1) ?_)
    have : l.any p = false := by
      rw [List.any_eq_false]
      intro x hx
      obtain ⟨j, hj, rfl⟩ := List.getElem_of_mem hx
      simpa using hk2 j hj (by omega)
    simp [this]
theorem containsH_a (f : FuncId) (caps : List (Nat × Nat × Nat)) (p : Hold → Bool) (he : entersB Tryz.prog f = true) (hc : ∀ (a b c : Nat), (a, b, c) ∈ caps → a < H.length) (l : List Hold) (hf : ∀ (x : Hold) (K : AV → Hp → Prop), x ∈ l → K (.c (.bool (p x))) H → ACalls Tryz.prog f (.agg (encH x) :: caps.map fun q => .c (.ptr (some q))) H K) (hlen : l.length ≤ 1099511627776) (hk : K (.c (.bool (l.any p))) H) : ACalls Tryz.prog 170 [.c (.lst 6 (l.map encH)), .c (.fn f [] caps)] H K := by
  refine acalls Tryz.func170 rfl (by kernel_rfl) (by simp (disch := first | omega | (simp only [go_sem]; first | done | omega)) only [go_sem]) (fun hH => ?_)
  simp (disch := first | omega | (simp only [go_sem]; first | done | omega)) only [go_sem]
  refine indexH_a f caps p he hc l hf hlen (fun r hr => ?_)
  simp (disch := first | omega | (simp only [go_sem]; first | done | omega)) only [go_sem]
  refine Ret.same (Nat.le_refl _) ?_
  rw [show decide (0 ≤ r) = l.any p by rw [Bool.eq_iff_iff, decide_eq_true_eq]; exact hr]
  exact hk
/-- a hold that is in force holds the data of a time -/
def inForce (x : Hold) (w0 w1 t : Int) : Bool := decide (x.t0 < w1 ∧ w0 < x.t1 ∧ x.made ≤ t ∧ t < x.ends)
theorem first3_lit (a b c : Int) {i ty n : Nat} {els : List (List AC)} {own : Bool} (hi : H[i]? = some (.row ty 1 els own)) (he : els = [[.int .i64 a], [.int .i64 b], [.int .i64 c]]) (hn : n = 3) (hk : K (.c (.int .i64 (firstE [a, b, c]))) (H.set i .dead)) : ACalls Tryz.prog 122 [.c (.sl (some (i, 0)) n)] H K := by
  subst he hn
  exact ACalls.lit hi (by simp [pureL, AC.pure]) (args' := [.c (.lst 1 ([a, b, c].map encI))]) (by simp [AV.frz1, AC.frz, encI]) (first_a [a, b, c] (by simp) hk)
theorem ofF_len (h : List Hold) (tag : ByteArray) : (ofF h tag).length ≤ h.length := List.length_filter_le _ _
end Go.Proofs.YthgdllfkejlnmaaGreat
/- Insertion sort: no program in sight. No condition. -/
namespace Go.Proofs.YthgdllfkejlnmaaGreat
open Go Go.RowKit
set_option maxRecDepth 100000
set_option linter.all false
section
variable {α : Type} (lt : α → α → Bool)
def sinkG : Nat → List α → List α
  | 0, l => l
  | j + 1, l => match l[j + 1]?, l[j]? with
    | some x, some y => if lt x y = true then sinkG j ((l.set (j + 1) y).set j x) else l
    | _, _ => l
def isortGoG : Nat → Nat → List α → List α
  | 0, _, l => l
  | c + 1, i, l => isortGoG c (i + 1) (sinkG lt i l)
def isortG (l : List α) : List α := isortGoG lt (l.length - 1) 1 l
theorem sinkG_step (j : Nat) (l : List α) (h : j + 1 < l.length) : sinkG lt (j + 1) l = if lt l[j + 1] l[j] = true then sinkG lt j ((l.set (j + 1) l[j]).set j l[j + 1]) else l := by
  rw [sinkG, List.getElem?_eq_getElem h, List.getElem?_eq_getElem (by omega)]
theorem sinkG_len : ∀ (j : Nat) (l : List α), (sinkG lt j l).length = l.length
  | 0, _ => rfl
  | j + 1, l => by
    unfold sinkG
    split
    · split
      · rw [sinkG_len j]; simp
      · rfl
    · rfl
theorem isortGoG_len : ∀ (c i : Nat) (l : List α), (isortGoG lt c i l).length = l.length
  | 0, _, _ => rfl
  | c + 1, i, l => by rw [isortGoG, isortGoG_len c, sinkG_len]
theorem isortG_len (l : List α) : (isortG lt l).length = l.length := isortGoG_len lt _ _ _
/-- into what is sorted, from its end -/
def insR : List α → α → List α
  | [], x => [x]
  | y :: p, x => if lt x y = true then y :: insR p x else x :: y :: p
theorem insR_len (p : List α) (x : α) : (insR lt p x).length = p.length + 1 := by
  induction p with
  | nil => rfl
  | cons y p ih => unfold insR; split <;> simp [ih]
theorem sinkG_eq : ∀ (p r : List α) (x : α), sinkG lt p.length (p.reverse ++ x :: r) = (insR lt p x).reverse ++ r
  | [], r, x => rfl
  | y :: p, r, x => by
    have e : (y :: p).reverse ++ x :: r = p.reverse ++ y :: x :: r := by simp
    have g1 : (p.reverse ++ y :: x :: r)[p.length + 1]? = some x := by rw [List.getElem?_append_right (by simp)]; simp
    have g2 : (p.reverse ++ y :: x :: r)[p.length]? = some y := by rw [List.getElem?_append_right (by simp)]; simp
    have g3 : ((p.reverse ++ y :: x :: r).set (p.length + 1) y).set p.length x = p.reverse ++ x :: y :: r := by
      rw [List.set_append_right _ _ (by simp), List.set_append_right _ _ (by simp)]; simp
    rw [e, List.length_cons, sinkG, g1, g2]
    dsimp only
    rw [g3, insR]
    split
    · rw [sinkG_eq p (y :: r) x]; simp
    · simp
theorem isortGoG_eq : ∀ (r q : List α), isortGoG lt r.length q.length (q.reverse ++ r) = (r.foldl (insR lt) q).reverse
  | [], q => by simp [isortGoG]
  | x :: r, q => by
    rw [List.length_cons, isortGoG, sinkG_eq, List.foldl_cons]
    have := isortGoG_eq r (insR lt q x)
    rwa [insR_len] at this
theorem isortG_eq (l : List α) : isortG lt l = (l.foldl (insR lt) []).reverse := by
  cases l with
  | nil => rfl
  | cons a t => exact isortGoG_eq lt t [a]
theorem insR_mem (p : List α) (x z : α) : z ∈ insR lt p x ↔ z = x ∨ z ∈ p := by
  induction p with
  | nil => simp [insR]
  | cons y p ih =>
    unfold insR
    split
    · simp only [List.mem_cons, ih]; constructor <;> (intro h; rcases h with h | h | h <;> simp [h])
    · simp
theorem fold_ins_mem (l q : List α) (z : α) : z ∈ l.foldl (insR lt) q ↔ z ∈ l ∨ z ∈ q := by
  induction l generalizing q with
  | nil => simp
  | cons x l ih =>
    rw [List.foldl_cons, ih, insR_mem, List.mem_cons]
    exact ⟨by rintro (h | h | h) <;> simp [h], by rintro ((h | h) | h) <;> simp [h]⟩
theorem isortG_mem (l : List α) (z : α) : z ∈ isortG lt l ↔ z ∈ l := by
  rw [isortG_eq, List.mem_reverse, fold_ins_mem]; simp
/-- sorted, if the order is one by numbers -/
theorem insR_sorted (f : α → Int) (hf : ∀ x y, lt x y = decide (f x < f y)) (p : List α) (x : α) (h : p.Pairwise (fun a b => f b ≤ f a)) : (insR lt p x).Pairwise (fun a b => f b ≤ f a) := by
  induction p with
  | nil => simp [insR]
  | cons y p ih =>
    rw [List.pairwise_cons] at h
    unfold insR
    split
    · rename_i c
      rw [hf, decide_eq_true_eq] at c
      rw [List.pairwise_cons]
      refine ⟨fun z hz => ?_, ih h.2⟩
      rcases (insR_mem lt p x z).1 hz with rfl | hz
      · omega
      · exact h.1 z hz
    · rename_i c
      rw [hf, decide_eq_true_eq] at c
      rw [List.pairwise_cons, List.pairwise_cons]
      refine ⟨fun z hz => ?_, h⟩
      rcases List.mem_cons.1 hz with rfl | hz
      · omega
      · have := h.1 z hz; omega
theorem isortG_sorted (f : α → Int) (hf : ∀ x y, lt x y = decide (f x < f y)) (l : List α) : (isortG lt l).Pairwise (fun a b => f a ≤ f b) := by
  rw [isortG_eq, List.pairwise_reverse]
  have key : ∀ (l q : List α), q.Pairwise (fun a b => f b ≤ f a) → (l.foldl (insR lt) q).Pairwise (fun a b => f b ≤ f a) := by
    intro l
    induction l with
    | nil => intro q h; exact h
    | cons x l ih => intro q h; exact ih _ (insR_sorted lt f hf q x h)
  exact key l [] List.Pairwise.nil
end
end Go.Proofs.YthgdllfkejlnmaaGreat
/- Few holds sorted in place. Condition: at most 12. -/
namespace Go.Proofs.YthgdllfkejlnmaaGreat
open Go Go.RowKit
set_option maxRecDepth 100000
set_option linter.all false
set_option maxHeartbeats 1000000
variable {H : Hp} {K : AV → Hp → Prop}
theorem insertionH_a (f : FuncId) (cf : Hold → Hold → Int) (lt : Hold → Hold → Bool) (P : Hold → Prop) (he : entersB Tryz.prog f = true) (hc : ∀ x y, P x → P y → (cf x y < 0 ↔ lt x y = true)) (hf : ∀ (x y : Hold) (H : Hp) (K : AV → Hp → Prop), P x → P y → K (.c (.int .i64 (cf x y))) H → ACalls Tryz.prog f [.agg (encH x), .agg (encH y)] H K)
    {i n : Nat} (l : List Hold) (hi : H[i]? = some (.row 130 6 (l.map encH) true)) (hn : n = l.length) (hP : ∀ x ∈ l, P x) (hlen : l.length ≤ 1000000) (hk : K (.tup []) (H.set i (.row 130 6 ((isortG lt l).map encH) true))) :
    ACalls Tryz.prog 237 [.c (.sl (some (i, 0)) n), (.c (.int .i64 0)), (.c (.int .i64 n)), .c (.fn f [] [])] H K := by
  subst hn
  have hlt := getElem?_lt hi
  refine acalls Tryz.func237 rfl (by kernel_rfl) (by simp (disch := first | omega | (simp only [go_sem]; first | done | omega)) only [go_sem]) (fun hH => ?_)
  simp (disch := first | omega | (simp only [go_sem]; first | done | omega)) only [go_sem]
  refine AWp.loop (H.length) [0, 1, 2, 3] [8] (fun (q : Nat × List Hold) => 1 ≤ q.1 ∧ (q.1 ≤ l.length ∨ q.1 = 1) ∧ q.2.length = l.length ∧ (∀ x ∈ q.2, P x) ∧ isortGoG lt (l.length - q.1) q.1 q.2 = isortG lt l) (fun (q : Nat × List Hold) => [(8, (.c (.int .i64 (q.1))))]) (fun (q : Nat × List Hold) => H.set i (.row 130 6 (q.2.map encH) true)) (fun (q : Nat × List Hold) => l.length - q.1) (by kernel_rfl) (fun _ => rfl) (by kernel_rfl) (by simp) (by first | (simp; done) | (simp; omega)) (by (try simp only [List.forall_mem_cons, List.not_mem_nil, false_implies, implies_true, and_true]); (try simp (disch := first | omega | (simp only [go_sem]; first | done | omega)) only [go_sem]); all_goals first | trivial | (simp [AV.ok, AV.ok1, AC.ok]; done) | (simp [AV.ok, AV.ok1, AC.ok]; omega) | (simp [AV.ok, AV.ok1, AC.ok]; assumption) | ((repeat' apply And.intro) <;> first | trivial | (simp [AV.ok, AV.ok1, AC.ok]; done) | (simp [AV.ok, AV.ok1, AC.ok]; omega) | (simp [AV.ok, AV.ok1, AC.ok]; assumption) | (refine grV_ok ?_ _; first | (simp; done) | (simp; omega) | omega))) ?_ (fun q hq _ _ => ?_)
  · refine Next.mk (1, l) ⟨by simp, by simp, rfl, hP, rfl⟩ ?_
    have e : H.set i (.row 130 6 (l.map encH) true) = H := by
      apply List.ext_getElem?
      intro j
      by_cases h : i = j
      · subst h; rw [List.getElem?_set_self hlt, hi]
      · rw [List.getElem?_set_ne h]
    dsimp only
    rw [e]
    (try simp (disch := first | omega | (simp only [go_sem]; first | done | omega)) only [go_sem]); (first | refine WkL.eq ?_ ?_ | refine WkL.rest (by assumption) ?_ ?_ ?_ | refine WkL.keepL (by assumption) rfl ?_ ?_ ?_ ?_) <;> first | rfl | (simp; done) | (simp; omega) | (simp only [List.cons.injEq, AV.c.injEq, AC.int.injEq, AC.bool.injEq, AC.str.injEq, and_true, true_and, Int.natCast_add, Int.natCast_one, Int.cast_ofNat_Int]; omega) | (simp [AV.ok, AV.ok1, AC.ok]; done) | (simp [AV.ok, AV.ok1, AC.ok]; omega) | (simp only [List.forall_mem_cons, List.not_mem_nil, false_implies, implies_true, and_true]; (repeat' apply And.intro) <;> first | exact okN_map (fun x => by simp [go_sem, AC.pure]) | exact okN_grO (fun x => by simp [go_sem, AC.pure]) | (simp [AObj.okN, AC.ok]; done) | (simp [AObj.okN, AC.ok]; omega)) | (simp [*]; done) | grind
  obtain ⟨k, cur⟩ := q
  obtain ⟨hk1, hk2, hcl, hcP, hcE⟩ := hq
  dsimp only at hk1 hk2 hcl hcP hcE
  by_cases hkl : k < l.length
  · simp (disch := first | omega | (simp only [go_sem]; first | done | omega)) only [go_sem]
    refine AWp.loop (H.length) [0, 1, 2, 3, 8] [9] (fun (q : Nat × List Hold) => q.1 ≤ k ∧ q.2.length = l.length ∧ (∀ x ∈ q.2, P x) ∧ sinkG lt q.1 q.2 = sinkG lt k cur) (fun (q : Nat × List Hold) => [(9, (.c (.int .i64 (q.1))))]) (fun (q : Nat × List Hold) => H.set i (.row 130 6 (q.2.map encH) true)) (fun (q : Nat × List Hold) => q.1) (by kernel_rfl) (fun _ => rfl) (by kernel_rfl) (by simp) (by first | (simp; done) | (simp; omega)) (by (try simp only [List.forall_mem_cons, List.not_mem_nil, false_implies, implies_true, and_true]); (try simp (disch := first | omega | (simp only [go_sem]; first | done | omega)) only [go_sem]); all_goals first | trivial | (simp [AV.ok, AV.ok1, AC.ok]; done) | (simp [AV.ok, AV.ok1, AC.ok]; omega) | (simp [AV.ok, AV.ok1, AC.ok]; assumption) | ((repeat' apply And.intro) <;> first | trivial | (simp [AV.ok, AV.ok1, AC.ok]; done) | (simp [AV.ok, AV.ok1, AC.ok]; omega) | (simp [AV.ok, AV.ok1, AC.ok]; assumption) | (refine grV_ok ?_ _; first | (simp; done) | (simp; omega) | omega))) ?_ (fun q hq _ _ => ?_)
    · exact Next.mk (k, cur) ⟨Nat.le_refl _, hcl, hcP, rfl⟩ (by (try simp (disch := first | omega | (simp only [go_sem]; first | done | omega)) only [go_sem]); (first | refine WkL.eq ?_ ?_ | refine WkL.rest (by assumption) ?_ ?_ ?_ | refine WkL.keepL (by assumption) rfl ?_ ?_ ?_ ?_) <;> first | rfl | (simp; done) | (simp; omega) | (simp only [List.cons.injEq, AV.c.injEq, AC.int.injEq, AC.bool.injEq, AC.str.injEq, and_true, true_and, Int.natCast_add, Int.natCast_one, Int.cast_ofNat_Int]; omega) | (simp [AV.ok, AV.ok1, AC.ok]; done) | (simp [AV.ok, AV.ok1, AC.ok]; omega) | (simp only [List.forall_mem_cons, List.not_mem_nil, false_implies, implies_true, and_true]; (repeat' apply And.intro) <;> first | exact okN_map (fun x => by simp [go_sem, AC.pure]) | exact okN_grO (fun x => by simp [go_sem, AC.pure]) | (simp [AObj.okN, AC.ok]; done) | (simp [AObj.okN, AC.ok]; omega)) | (simp [*]; done) | grind)
    obtain ⟨j, cu⟩ := q
    obtain ⟨hj1, hj2, hjP, hjE⟩ := hq
    dsimp only at hj1 hj2 hjP hjE
    have hdone : sinkG lt j cu = cu → WkL H.length [(.c (.int .i64 ((k + 1 : Nat))))] (H.set i (.row 130 6 (cu.map encH) true)) [(.c (.int .i64 ((k + 1 : Nat))))] (H.set i (.row 130 6 ((sinkG lt k cur).map encH) true)) := fun h => by
      rw [← hjE, h]; exact WkL.refl (by simp)
    have hnx : sinkG lt j cu = cu → (1 ≤ k + 1 ∧ (k + 1 ≤ l.length ∨ k + 1 = 1) ∧ (sinkG lt k cur).length = l.length ∧ (∀ x ∈ sinkG lt k cur, P x) ∧ isortGoG lt (l.length - (k + 1)) (k + 1) (sinkG lt k cur) = isortG lt l) ∧ l.length - (k + 1) < l.length - k := fun h => by
      refine ⟨⟨by omega, .inl (by omega), by rw [← hjE, h]; exact hj2, by rw [← hjE, h]; exact hjP, ?_⟩, by omega⟩
      rw [← hcE, show l.length - k = (l.length - (k + 1)) + 1 by omega]; rfl
    rcases j with _ | j
    · simp (disch := first | omega | (simp only [go_sem]; first | done | omega)) only [go_sem]
      repeat' (first | ((first | refine acond_d ?_ ?_ | refine acond_b ?_ ?_ | refine ag_d ?_ ?_ | refine ag_n ?_ ?_ | refine ag_bt ?_ ?_ | refine ag_bf ?_ ?_) <;> intro c <;> try simp (disch := first | omega | (simp only [go_sem]; first | done | omega)) only [go_sem, c]) | ((first | refine w_draw (by kernel_rfl) (by decide +kernel) ?_) <;> try simp (disch := first | omega | (simp only [go_sem]; first | done | omega)) only [go_sem]))
      exact Next.mk (k + 1, sinkG lt k cur) (hnx rfl) (hdone rfl)
    · have hjl : j + 1 < cu.length := by omega
      have hst := sinkG_step lt j cu hjl
      have hx : cu[(((j + 1 : Nat) : Int) - 1).toNat]'(by omega) = cu[j] := by congr 1; omega
      simp (disch := first | omega | (simp only [go_sem]; first | done | omega)) only [go_sem]
      repeat' (first | ((first | refine acond_d ?_ ?_ | refine acond_b ?_ ?_ | refine ag_d ?_ ?_ | refine ag_n ?_ ?_ | refine ag_bt ?_ ?_ | refine ag_bf ?_ ?_) <;> intro c <;> try simp (disch := first | omega | (simp only [go_sem]; first | done | omega)) only [go_sem, c, he, hx]) | ((first | refine w_draw (by kernel_rfl) (by decide +kernel) ?_ | refine hf cu[j + 1] cu[j] _ _ (hjP _ (List.getElem_mem _)) (hjP _ (List.getElem_mem _)) ?_) <;> try simp (disch := first | omega | (simp only [go_sem]; first | done | omega)) only [go_sem, he, hx]))
      · have lt := (hc _ _ (hjP _ (List.getElem_mem _)) (hjP _ (List.getElem_mem _))).1 c
        have hmp : ∀ q, q = j → ((cu.map encH).set (j + 1) (encH cu[j])).set q (encH cu[j + 1]) = (((cu.set (j + 1) cu[j]).set j cu[j + 1])).map encH := by
          rintro q rfl; simp [List.map_set, -encH]
        have hmp := hmp (((j + 1 : Nat) : Int) - 1).toNat (by omega)
        refine Next.mk (j, (cu.set (j + 1) cu[j]).set j cu[j + 1]) ⟨⟨by omega, by simpa using hj2, fun x hx' => ?_, by rw [← hjE, hst, if_pos lt]⟩, by dsimp only; omega⟩ ?_
        · rcases List.mem_or_eq_of_mem_set hx' with h | rfl
          · rcases List.mem_or_eq_of_mem_set h with h | rfl
            · exact hjP x h
            · exact hjP _ (List.getElem_mem _)
          · exact hjP _ (List.getElem_mem _)
        · dsimp only
          rw [← hmp]
          (try simp (disch := first | omega | (simp only [go_sem]; first | done | omega)) only [go_sem]); (first | refine WkL.eq ?_ ?_ | refine WkL.rest (by assumption) ?_ ?_ ?_ | refine WkL.keepL (by assumption) rfl ?_ ?_ ?_ ?_) <;> first | rfl | (simp; done) | (simp; omega) | (simp only [List.cons.injEq, AV.c.injEq, AC.int.injEq, AC.bool.injEq, AC.str.injEq, and_true, true_and, Int.natCast_add, Int.natCast_one, Int.cast_ofNat_Int]; omega) | (simp [AV.ok, AV.ok1, AC.ok]; done) | (simp [AV.ok, AV.ok1, AC.ok]; omega) | (simp only [List.forall_mem_cons, List.not_mem_nil, false_implies, implies_true, and_true]; (repeat' apply And.intro) <;> first | exact okN_map (fun x => by simp [go_sem, AC.pure]) | exact okN_grO (fun x => by simp [go_sem, AC.pure]) | (simp [AObj.okN, AC.ok]; done) | (simp [AObj.okN, AC.ok]; omega)) | (simp [*]; done) | grind
      · have ge : ¬lt cu[j + 1] cu[j] = true := fun h => c ((hc _ _ (hjP _ (List.getElem_mem _)) (hjP _ (List.getElem_mem _))).2 h)
        have h : sinkG lt (j + 1) cu = cu := by rw [hst, if_neg ge]
        exact Next.mk (k + 1, sinkG lt k cur) (hnx h) (hdone h)
  · simp (disch := first | omega | (simp only [go_sem]; first | done | omega)) only [go_sem]
    have e : cur = isortG lt l := by rw [← hcE, show l.length - k = 0 by omega]; rfl
    rw [e]
    exact Ret.same (by simp) hk
theorem pdqH_a (f : FuncId) (cf : Hold → Hold → Int) (lt : Hold → Hold → Bool) (P : Hold → Prop) (he : entersB Tryz.prog f = true) (hc : ∀ x y, P x → P y → (cf x y < 0 ↔ lt x y = true)) (hf : ∀ (x y : Hold) (H : Hp) (K : AV → Hp → Prop), P x → P y → K (.c (.int .i64 (cf x y))) H → ACalls Tryz.prog f [.agg (encH x), .agg (encH y)] H K)
    {i n : Nat} (lim : Int) (l : List Hold) (hi : H[i]? = some (.row 130 6 (l.map encH) true)) (hn : n = l.length) (hP : ∀ x ∈ l, P x) (hlen : l.length ≤ 12) (hk : K (.tup []) (H.set i (.row 130 6 ((isortG lt l).map encH) true))) :
    ACalls Tryz.prog 202 [.c (.sl (some (i, 0)) n), (.c (.int .i64 0)), (.c (.int .i64 n)), (.c (.int .i64 lim)), .c (.fn f [] [])] H K := by
  subst hn
  have hlt := getElem?_lt hi
  refine acalls Tryz.func202 rfl (by kernel_rfl) (by simp (disch := first | omega | (simp only [go_sem]; first | done | omega)) only [go_sem]) (fun hH => ?_)
  simp (disch := first | omega | (simp only [go_sem]; first | done | omega)) only [go_sem]
  refine AWp.loop (H.length) [0, 4] [1, 2, 3, 10, 11] (fun (q : Unit) => True) (fun (q : Unit) => [(1, (.c (.int .i64 0))), (2, (.c (.int .i64 (l.length)))), (3, (.c (.int .i64 lim))), (10, (.c (.bool true))), (11, (.c (.bool true)))]) (fun (q : Unit) => H) (fun (q : Unit) => 0) (by kernel_rfl) (fun _ => rfl) (by kernel_rfl) (by simp) (by first | (simp; done) | (simp; omega)) (by (try simp only [List.forall_mem_cons, List.not_mem_nil, false_implies, implies_true, and_true]); (try simp (disch := first | omega | (simp only [go_sem]; first | done | omega)) only [go_sem]); all_goals first | trivial | (simp [AV.ok, AV.ok1, AC.ok]; done) | (simp [AV.ok, AV.ok1, AC.ok]; omega) | (simp [AV.ok, AV.ok1, AC.ok]; assumption) | ((repeat' apply And.intro) <;> first | trivial | (simp [AV.ok, AV.ok1, AC.ok]; done) | (simp [AV.ok, AV.ok1, AC.ok]; omega) | (simp [AV.ok, AV.ok1, AC.ok]; assumption) | (refine grV_ok ?_ _; first | (simp; done) | (simp; omega) | omega))) ?_ (fun q hq _ _ => ?_)
  · exact Next.mk () trivial (by (try simp (disch := first | omega | (simp only [go_sem]; first | done | omega)) only [go_sem]); (first | refine WkL.eq ?_ ?_ | refine WkL.rest (by assumption) ?_ ?_ ?_ | refine WkL.keepL (by assumption) rfl ?_ ?_ ?_ ?_) <;> first | rfl | (simp; done) | (simp; omega) | (simp only [List.cons.injEq, AV.c.injEq, AC.int.injEq, AC.bool.injEq, AC.str.injEq, and_true, true_and, Int.natCast_add, Int.natCast_one, Int.cast_ofNat_Int]; omega) | (simp [AV.ok, AV.ok1, AC.ok]; done) | (simp [AV.ok, AV.ok1, AC.ok]; omega) | (simp only [List.forall_mem_cons, List.not_mem_nil, false_implies, implies_true, and_true]; (repeat' apply And.intro) <;> first | exact okN_map (fun x => by simp [go_sem, AC.pure]) | exact okN_grO (fun x => by simp [go_sem, AC.pure]) | (simp [AObj.okN, AC.ok]; done) | (simp [AObj.okN, AC.ok]; omega)) | (simp [*]; done) | grind)
  simp (disch := first | omega | (simp only [go_sem]; first | done | omega)) only [go_sem]
  refine insertionH_a f cf lt P he hc hf l hi rfl hP (by omega) ?_
  simp (disch := first | omega | (simp only [go_sem]; first | done | omega)) only [go_sem]
  exact Ret.same (by simp) hk
theorem insNilH_a (f : FuncId) (hk : K (.tup []) H) : ACalls Tryz.prog 237 [.c (.sl none 0), (.c (.int .i64 0)), (.c (.int .i64 0)), .c (.fn f [] [])] H K := by
  refine acalls Tryz.func237 rfl (by kernel_rfl) (by simp (disch := first | omega | (simp only [go_sem]; first | done | omega)) only [go_sem]) (fun hH => ?_)
  simp (disch := first | omega | (simp only [go_sem]; first | done | omega)) only [go_sem]
  refine AWp.loop (H.length) [0, 1, 2, 3] [8] (fun (q : Unit) => True) (fun (q : Unit) => [(8, (.c (.int .i64 1)))]) (fun (q : Unit) => H) (fun (q : Unit) => 0) (by kernel_rfl) (fun _ => rfl) (by kernel_rfl) (by simp) (by first | (simp; done) | (simp; omega)) (by (try simp only [List.forall_mem_cons, List.not_mem_nil, false_implies, implies_true, and_true]); (try simp (disch := first | omega | (simp only [go_sem]; first | done | omega)) only [go_sem]); all_goals first | trivial | (simp [AV.ok, AV.ok1, AC.ok]; done) | (simp [AV.ok, AV.ok1, AC.ok]; omega) | (simp [AV.ok, AV.ok1, AC.ok]; assumption) | ((repeat' apply And.intro) <;> first | trivial | (simp [AV.ok, AV.ok1, AC.ok]; done) | (simp [AV.ok, AV.ok1, AC.ok]; omega) | (simp [AV.ok, AV.ok1, AC.ok]; assumption) | (refine grV_ok ?_ _; first | (simp; done) | (simp; omega) | omega))) ?_ (fun q hq _ _ => ?_)
  · exact Next.mk () trivial (by (try simp (disch := first | omega | (simp only [go_sem]; first | done | omega)) only [go_sem]); (first | refine WkL.eq ?_ ?_ | refine WkL.rest (by assumption) ?_ ?_ ?_ | refine WkL.keepL (by assumption) rfl ?_ ?_ ?_ ?_) <;> first | rfl | (simp; done) | (simp; omega) | (simp only [List.cons.injEq, AV.c.injEq, AC.int.injEq, AC.bool.injEq, AC.str.injEq, and_true, true_and, Int.natCast_add, Int.natCast_one, Int.cast_ofNat_Int]; omega) | (simp [AV.ok, AV.ok1, AC.ok]; done) | (simp [AV.ok, AV.ok1, AC.ok]; omega) | (simp only [List.forall_mem_cons, List.not_mem_nil, false_implies, implies_true, and_true]; (repeat' apply And.intro) <;> first | exact okN_map (fun x => by simp [go_sem, AC.pure]) | exact okN_grO (fun x => by simp [go_sem, AC.pure]) | (simp [AObj.okN, AC.ok]; done) | (simp [AObj.okN, AC.ok]; omega)) | (simp [*]; done) | grind)
  simp (disch := first | omega | (simp only [go_sem]; first | done | omega)) only [go_sem]
  exact Ret.same (by simp) hk
theorem pdqNilH_a (f : FuncId) (lim : Int) (hk : K (.tup []) H) : ACalls Tryz.prog 202 [.c (.sl none 0), (.c (.int .i64 0)), (.c (.int .i64 0)), (.c (.int .i64 lim)), .c (.fn f [] [])] H K := by
  refine acalls Tryz.func202 rfl (by kernel_rfl) (by simp (disch := first | omega | (simp only [go_sem]; first | done | omega)) only [go_sem]) (fun hH => ?_)
  simp (disch := first | omega | (simp only [go_sem]; first | done | omega)) only [go_sem]
  refine AWp.loop (H.length) [0, 4] [1, 2, 3, 10, 11] (fun (q : Unit) => True) (fun (q : Unit) => [(1, (.c (.int .i64 0))), (2, (.c (.int .i64 0))), (3, (.c (.int .i64 lim))), (10, (.c (.bool true))), (11, (.c (.bool true)))]) (fun (q : Unit) => H) (fun (q : Unit) => 0) (by kernel_rfl) (fun _ => rfl) (by kernel_rfl) (by simp) (by first | (simp; done) | (simp; omega)) (by (try simp only [List.forall_mem_cons, List.not_mem_nil, false_implies, implies_true, and_true]); (try simp (disch := first | omega | (simp only [go_sem]; first | done | omega)) only [go_sem]); all_goals first | trivial | (simp [AV.ok, AV.ok1, AC.ok]; done) | (simp [AV.ok, AV.ok1, AC.ok]; omega) | (simp [AV.ok, AV.ok1, AC.ok]; assumption) | ((repeat' apply And.intro) <;> first | trivial | (simp [AV.ok, AV.ok1, AC.ok]; done) | (simp [AV.ok, AV.ok1, AC.ok]; omega) | (simp [AV.ok, AV.ok1, AC.ok]; assumption) | (refine grV_ok ?_ _; first | (simp; done) | (simp; omega) | omega))) ?_ (fun q hq _ _ => ?_)
  · exact Next.mk () trivial (by (try simp (disch := first | omega | (simp only [go_sem]; first | done | omega)) only [go_sem]); (first | refine WkL.eq ?_ ?_ | refine WkL.rest (by assumption) ?_ ?_ ?_ | refine WkL.keepL (by assumption) rfl ?_ ?_ ?_ ?_) <;> first | rfl | (simp; done) | (simp; omega) | (simp only [List.cons.injEq, AV.c.injEq, AC.int.injEq, AC.bool.injEq, AC.str.injEq, and_true, true_and, Int.natCast_add, Int.natCast_one, Int.cast_ofNat_Int]; omega) | (simp [AV.ok, AV.ok1, AC.ok]; done) | (simp [AV.ok, AV.ok1, AC.ok]; omega) | (simp only [List.forall_mem_cons, List.not_mem_nil, false_implies, implies_true, and_true]; (repeat' apply And.intro) <;> first | exact okN_map (fun x => by simp [go_sem, AC.pure]) | exact okN_grO (fun x => by simp [go_sem, AC.pure]) | (simp [AObj.okN, AC.ok]; done) | (simp [AObj.okN, AC.ok]; omega)) | (simp [*]; done) | grind)
  simp (disch := first | omega | (simp only [go_sem]; first | done | omega)) only [go_sem]
  refine insNilH_a f ?_
  simp (disch := first | omega | (simp only [go_sem]; first | done | omega)) only [go_sem]
  exact Ret.same (by simp) hk
theorem len64_a (n : Nat) (hn : n ≤ 12) (hk : ∀ r : Int, K (.c (.int .i64 r)) H) : ACalls Tryz.prog 228 [.c (.int .u64 n)] H K := by
  have hw : IntKind.u8.wrap (n : Int) = n := by
    have : ∀ m : Fin 13, IntKind.u8.wrap (m.val : Int) = m.val := by decide
    exact this ⟨n, by omega⟩
  refine acalls Tryz.func228 rfl (by kernel_rfl) (by simp (disch := first | omega | (simp only [go_sem]; first | done | omega)) only [go_sem]) (fun hH => ?_)
  simp (disch := first | omega | (simp only [go_sem]; first | done | omega)) only [go_sem]
  refine ⟨⟨by rw [hw]; omega, by rw [hw]; exact Int.lt_of_lt_of_le (b := 13) (by omega) (by decide +kernel)⟩, ?_⟩
  generalize List.getD _ _ _ = z
  simp (disch := first | omega | (simp only [go_sem]; first | done | omega)) only [go_sem]
  exact Ret.same (Nat.le_refl _) (hk _)
theorem len_a (n : Nat) (hn : n ≤ 12) (hk : ∀ r : Int, K (.c (.int .i64 r)) H) : ACalls Tryz.prog 188 [.c (.int .u64 n)] H K := by
  refine acalls Tryz.func188 rfl (by kernel_rfl) (by simp (disch := first | omega | (simp only [go_sem]; first | done | omega)) only [go_sem]) (fun hH => ?_)
  simp (disch := first | omega | (simp only [go_sem]; first | done | omega)) only [go_sem]
  refine len64_a n hn (fun r => ?_)
  simp (disch := first | omega | (simp only [go_sem]; first | done | omega)) only [go_sem]
  exact Ret.same (Nat.le_refl _) (hk r)
theorem sortH_a (f : FuncId) (cf : Hold → Hold → Int) (lt : Hold → Hold → Bool) (P : Hold → Prop) (he : entersB Tryz.prog f = true) (hc : ∀ x y, P x → P y → (cf x y < 0 ↔ lt x y = true)) (hf : ∀ (x y : Hold) (H : Hp) (K : AV → Hp → Prop), P x → P y → K (.c (.int .i64 (cf x y))) H → ACalls Tryz.prog f [.agg (encH x), .agg (encH y)] H K)
    {i : Nat} (l : List Hold) (hi : H[i]? = some (grO 130 6 (l.map encH))) (hP : ∀ x ∈ l, P x) (hlen : l.length ≤ 12) (hk : K (.tup []) (H.set i (grO 130 6 ((isortG lt l).map encH)))) :
    ACalls Tryz.prog 164 [.c (grV i l), .c (.fn f [] [])] H K := by
  by_cases h : l = []
  · subst h
    have hk : K (.tup []) (H.set i .dead) := hk
    rw [set_same (o := .dead) hi] at hk
    simp only [grV]
    refine acalls Tryz.func164 rfl (by kernel_rfl) (by simp (disch := first | omega | (simp only [go_sem]; first | done | omega)) only [go_sem]) (fun hH => ?_)
    simp (disch := first | omega | (simp only [go_sem]; first | done | omega)) only [go_sem]
    have hw : IntKind.u64.wrap 0 = ((0 : Nat) : Int) := by decide
    rw [hw]
    refine len_a 0 (by omega) (fun r => ?_)
    simp (disch := first | omega | (simp only [go_sem]; first | done | omega)) only [go_sem]
    refine pdqNilH_a f r ?_
    simp (disch := first | omega | (simp only [go_sem]; first | done | omega)) only [go_sem]
    exact Ret.same (by simp) hk
  · have h2 : l.map encH ≠ [] := by simpa using h
    have h3 : (isortG lt l).map encH ≠ [] := by intro h4; have := congrArg List.length h4; simp [isortG_len] at this; exact h this
    rw [grO_pos _ _ h2] at hi
    rw [grO_pos _ _ h3] at hk
    rw [grV_pos _ h]
    refine acalls Tryz.func164 rfl (by kernel_rfl) (by simp (disch := first | omega | (simp only [go_sem]; first | done | omega)) only [go_sem]) (fun hH => ?_)
    simp (disch := first | omega | (simp only [go_sem]; first | done | omega)) only [go_sem]
    have hw : IntKind.u64.wrap (l.length : Int) = l.length := by
      have : ∀ m : Fin 13, IntKind.u64.wrap (m.val : Int) = m.val := by decide
      exact this ⟨l.length, by omega⟩
    rw [hw]
    refine len_a l.length hlen (fun r => ?_)
    simp (disch := first | omega | (simp only [go_sem]; first | done | omega)) only [go_sem]
    refine pdqH_a f cf lt P he hc hf r l hi rfl hP hlen ?_
    simp (disch := first | omega | (simp only [go_sem]; first | done | omega)) only [go_sem]
    exact Ret.same (by simp) hk
end Go.Proofs.YthgdllfkejlnmaaGreat
/- How long data is kept: the program. Condition: few holds, numbers as those of levels. -/
namespace Go.Proofs.YthgdllfkejlnmaaGreat
open Go Go.RowKit
set_option maxRecDepth 100000
set_option linter.all false
set_option maxHeartbeats 1000000
variable {H : Hp} {K : AV → Hp → Prop}
def ivl (x : Level) (m : Int) : Int × Int := if x.step = 0 then (m, m + 1) else (m / x.step * x.step, m / x.step * x.step + x.step)
theorem interval_a (x : Level) (m : Int) (h0 : 0 ≤ x.step) (h1 : x.step ≤ 86400000) (hm : -1000000000000 ≤ m) (hm2 : m ≤ 1000000000000) (hm0 : 0 ≤ m) (hk : K (.agg [.int .i64 (ivl x m).1, .int .i64 (ivl x m).2]) H) : ACalls Tryz.prog 93 [.agg (encL x), (.c (.int .i64 m))] H K := by
  by_cases hs : x.step = 0
  · rw [show ivl x m = (m, m + 1) by simp [ivl, hs]] at hk
    refine acalls Tryz.func93 rfl (by kernel_rfl) (by simp (disch := first | omega | (simp only [go_sem]; first | done | omega)) only [go_sem]) (fun hH => ?_)
    simp (disch := first | omega | (simp only [go_sem]; first | done | omega)) only [go_sem, hs]
    exact Ret.drop hH (Nat.le_refl _) (by simp [AV.ok, AV.ok1, AC.ok]) hk
  · have t0 : 0 ≤ m / x.step := Int.ediv_nonneg (by omega) (by omega)
    have t1 : m / x.step * x.step ≤ m := Int.ediv_mul_le _ hs
    have t2 : 0 ≤ m / x.step * x.step := Int.mul_nonneg t0 (by omega)
    rw [show ivl x m = (m / x.step * x.step, m / x.step * x.step + x.step) by simp [ivl, hs]] at hk
    refine acalls Tryz.func93 rfl (by kernel_rfl) (by simp (disch := first | omega | (simp only [go_sem]; first | done | omega)) only [go_sem]) (fun hH => ?_)
    simp (disch := first | omega | (simp only [go_sem]; first | done | omega)) only [go_sem, hs]
    refine w_draw (by kernel_rfl) (by decide +kernel) ?_
    simp (disch := first | omega | (simp only [go_sem]; first | done | omega)) only [go_sem]
    exact Ret.drop hH (Nat.le_refl _) (by simp [AV.ok, AV.ok1, AC.ok]) hk
theorem intervalR_a (x : Level) (m : Int) (h0 : 0 ≤ x.step) (h1 : x.step ≤ 86400000) (hm2 : m ≤ 1000000000000) (hm0 : 0 ≤ m) (hk : K (.agg [.int .i64 (ivl x m).1, .int .i64 (ivl x m).2]) H) : ACalls Tryz.prog 104 [.agg (encL x), (.c (.int .i64 m))] H K := by
  by_cases hs : x.step = 0
  · rw [show ivl x m = (m, m + 1) by simp [ivl, hs]] at hk
    refine acalls Tryz.func104 rfl (by kernel_rfl) (by simp (disch := first | omega | (simp only [go_sem]; first | done | omega)) only [go_sem]) (fun hH => ?_)
    simp (disch := first | omega | (simp only [go_sem]; first | done | omega)) only [go_sem, hs]
    exact Ret.drop hH (Nat.le_refl _) (by simp [AV.ok, AV.ok1, AC.ok]) hk
  · have t0 : m - m % x.step = m / x.step * x.step := by have := Int.emod_add_ediv_mul m x.step; omega
    have t1 : 0 ≤ m % x.step := Int.emod_nonneg _ hs
    have t2 : m % x.step < x.step := Int.emod_lt_of_pos _ (by omega)
    rw [show ivl x m = (m - m % x.step, m - m % x.step + x.step) by simp [ivl, hs, t0]] at hk
    refine acalls Tryz.func104 rfl (by kernel_rfl) (by simp (disch := first | omega | (simp only [go_sem]; first | done | omega)) only [go_sem]) (fun hH => ?_)
    simp (disch := first | omega | (simp only [go_sem]; first | done | omega)) only [go_sem, hs]
    exact Ret.drop hH (Nat.le_refl _) (by simp [AV.ok, AV.ok1, AC.ok]) hk
def madeLt (x y : Hold) : Bool := decide (x.made < y.made)
theorem until1_a (x y : Hold) (hk : K (.c (.int .i64 (if x.made < y.made then -1 else if y.made < x.made then 1 else 0))) H) : ACalls Tryz.prog 165 [.agg (encH x), .agg (encH y)] H K := by
  refine acalls Tryz.func165 rfl (by kernel_rfl) (by simp (disch := first | omega | (simp only [go_sem]; first | done | omega)) only [go_sem]) (fun hH => ?_)
  simp (disch := first | omega | (simp only [go_sem]; first | done | omega)) only [go_sem]
  repeat' (first | ((first | refine acond_d ?_ ?_ | refine acond_b ?_ ?_ | refine ag_d ?_ ?_ | refine ag_n ?_ ?_ | refine ag_bt ?_ ?_ | refine ag_bf ?_ ?_) <;> intro c <;> try simp (disch := first | omega | (simp only [go_sem]; first | done | omega)) only [go_sem, c]) | ((first | refine w_draw (by kernel_rfl) (by decide +kernel) ?_ | refine compare_a _ _ ?_) <;> try simp (disch := first | omega | (simp only [go_sem]; first | done | omega)) only [go_sem]))
  all_goals (first | refine Ret.sameE (Nat.le_refl _) (by assumption) ?_ | refine Ret.dropE (by assumption) (Nat.le_refl _) (by assumption) (by simp [AV.ok, AV.ok1, AC.ok]) ?_) <;> (first | rfl | (simp only [AV.c.injEq, AC.bool.injEq]; rw [Bool.eq_iff_iff]; simp only [Bool.not_eq_true', decide_eq_true_eq, decide_eq_false_iff_not, Bool.and_eq_true, Bool.or_eq_true]; omega) | grind | (simp [*]; done) | (simp [*]; omega))
def meets (w0 w1 : Int) (x : Hold) : Bool := decide (max x.t0 w0 < min x.t1 w1)
def stepU (last : Int) (x : Hold) : Int := if x.made ≤ last + 1 then max last (x.ends - 1) else last
def untilF (keep : Int) (h : List Hold) (w0 w1 : Int) : Int := (isortG madeLt (h.filter (meets w0 w1))).foldl stepU (w1 + keep)
def Hold.near (x : Hold) : Prop := -2000000000000 ≤ x.t0 ∧ x.t0 ≤ 2000000000000 ∧ -2000000000000 ≤ x.t1 ∧ x.t1 ≤ 2000000000000 ∧ -2000000000000 ≤ x.made ∧ x.made ≤ 2000000000000 ∧ -2000000000000 ≤ x.ends ∧ x.ends ≤ 2000000000000
theorem foldU_bd : ∀ (l : List Hold) (a : Int), (∀ x ∈ l, x.near) → -3000000000000 ≤ a → a ≤ 3000000000000 → -3000000000000 ≤ l.foldl stepU a ∧ l.foldl stepU a ≤ 3000000000000
  | [], a, _, h1, h2 => ⟨h1, h2⟩
  | x :: l, a, h, h1, h2 => by
    rw [List.foldl_cons]
    have hx := h x (by simp)
    simp only [Hold.near] at hx
    refine foldU_bd l _ (fun y hy => h y (by simp [hy])) ?_ ?_ <;> (unfold stepU; split <;> omega)
theorem pureL_encH (l : List Hold) : pureL (l.map encH) = true := pureL_map l (fun x => by simp [AC.pure])
theorem until_a (x : Level) (h : List Hold) (w0 w1 : Int) (hlen : h.length ≤ 12) (hn : ∀ y ∈ h, y.near) (hw : 0 ≤ w0 ∧ w0 ≤ 2000000000000 ∧ 0 ≤ w1 ∧ w1 ≤ 2000000000000) (hkp : 0 ≤ x.keep ∧ x.keep ≤ 400000000000)
    (hk : K (.c (.int .i64 (untilF x.keep h w0 w1))) H) : ACalls Tryz.prog 92 [.agg (encL x), .c (.lst 6 (h.map encH)), .agg [.int .i64 w0, .int .i64 w1]] H K := by
  refine acalls Tryz.func92 rfl (by kernel_rfl) (by simp (disch := first | omega | (simp only [go_sem]; first | done | omega)) only [go_sem]) (fun hH => ?_)
  simp (disch := first | omega | (simp only [go_sem]; first | done | omega)) only [go_sem]
  refine AWp.loop (H.length + 2) [3, 5, 13, 14] [15, 7] (fun (k : Nat) => k ≤ h.length) (fun (k : Nat) => [(15, (.c (.int .i64 k))), (7, .c (grV (H.length + 2) ((h.take k).filter (meets w0 w1))))]) (fun (k : Nat) => H ++ [.row 127 2 [encL x] true, .row 35 2 [[.int .i64 w0, .int .i64 w1]] true, grO 130 6 (((h.take k).filter (meets w0 w1)).map encH)]) (fun (k : Nat) => h.length - k) (by kernel_rfl) (fun _ => rfl) (by kernel_rfl) (by simp) (by first | (simp; done) | (simp; omega)) (by (try simp only [List.forall_mem_cons, List.not_mem_nil, false_implies, implies_true, and_true]); (try simp (disch := first | omega | (simp only [go_sem]; first | done | omega)) only [go_sem]); all_goals first | trivial | (simp [AV.ok, AV.ok1, AC.ok]; done) | (simp [AV.ok, AV.ok1, AC.ok]; omega) | (simp [AV.ok, AV.ok1, AC.ok]; assumption) | ((repeat' apply And.intro) <;> first | trivial | (simp [AV.ok, AV.ok1, AC.ok]; done) | (simp [AV.ok, AV.ok1, AC.ok]; omega) | (simp [AV.ok, AV.ok1, AC.ok]; assumption) | (refine grV_ok ?_ _; first | (simp; done) | (simp; omega) | omega))) ?_ (fun k hkb _ _ => ?_)
  · refine Next.mk 0 (by omega) ?_
    simp (disch := first | omega | (simp only [go_sem]; first | done | omega)) only [go_sem]
    exact WkL.padP [_, _] (by simp)
  have hfl : ((h.take k).filter (meets w0 w1)).length ≤ 1000 := by
    have h1 := List.length_filter_le (meets w0 w1) (h.take k)
    have h2 : (h.take k).length ≤ h.length := by rw [List.length_take]; omega
    omega
  by_cases hlt : k < h.length
  · have hnx : (h.take (k + 1)).filter (meets w0 w1) = (h.take k).filter (meets w0 w1) ++ (if meets w0 w1 h[k] = true then [h[k]] else []) := by
      rw [List.take_succ_eq_append_getElem hlt, List.filter_append]
      congr 1
      by_cases c : meets w0 w1 h[k] = true <;> simp [c]
    have hnk := hn h[k] (List.getElem_mem hlt)
    simp (disch := first | omega | (simp only [go_sem]; first | done | omega)) only [go_sem]
    refine acond_d (fun c => ?_) (fun c => ?_)
    · have c2 : meets w0 w1 h[k] = true := decide_eq_true c
      rw [if_pos c2] at hnx
      simp (disch := first | omega | (simp only [go_sem]; first | done | omega)) only [go_sem]
      (refine app_gr (enc := encH) (e := 130) (sz := 6) (bs := 64) (z := [.str ⟨#[]⟩, .str ⟨#[]⟩, .int .i64 0, .int .i64 0, .int .i64 0, .int .i64 0]) ((h.take k).filter (meets w0 w1)) (h[k]) (by kernel_rfl) (by kernel_rfl) (by kernel_rfl) (by kernel_rfl) (by first | exact at0 (by simp) | exact at1 (by simp) | exact at2 (by simp) | exact at3 (by simp) | exact at4 (by simp) | exact at5 (by simp) | exact atG 6 (by simp) rfl | exact atG 7 (by simp) rfl | exact atG 8 (by simp) rfl | exact atG 9 (by simp) rfl | exact atG 10 (by simp) rfl | assumption) (by first | (simp (disch := first | omega | (simp only [go_sem]; first | done | omega)) only [go_sem]; done) | (simp (disch := first | omega | (simp only [go_sem]; first | done | omega)) only [go_sem]; rfl) | (simp (disch := first | omega | (simp only [go_sem]; first | done | omega)) only [go_sem]; simp [go_sem]; done) | (simp (disch := first | omega | (simp only [go_sem]; first | done | omega)) only [go_sem]; simp [*]; done)) rfl (by decide) (by omega) (by omega) (by rfl) ?_)
      simp (disch := first | omega | (simp only [go_sem]; first | done | omega)) only [go_sem]
      exact Next.mk (k + 1) ⟨by omega, by omega⟩ (by rw [hnx]; ((try simp (disch := first | omega | (simp only [go_sem]; first | done | omega)) only [go_sem]); (first | refine WkL.pickAt [_, _] [0] ?_ ?_ ?_ rfl ?_ ?_ ?_ ?_ | refine WkL.pickAt [_, _] [1] ?_ ?_ ?_ rfl ?_ ?_ ?_ ?_ | refine WkL.pickAt [_, _] [2] ?_ ?_ ?_ rfl ?_ ?_ ?_ ?_ | refine WkL.pickAt [_, _] [3] ?_ ?_ ?_ rfl ?_ ?_ ?_ ?_ | refine WkL.pickAt [_, _] [4] ?_ ?_ ?_ rfl ?_ ?_ ?_ ?_ | refine WkL.pickAt [_, _] [5] ?_ ?_ ?_ rfl ?_ ?_ ?_ ?_ | refine WkL.pickAt [_, _] [6] ?_ ?_ ?_ rfl ?_ ?_ ?_ ?_ | refine WkL.pickAt [_, _] [7] ?_ ?_ ?_ rfl ?_ ?_ ?_ ?_ | refine WkL.pickAt [_, _] [8] ?_ ?_ ?_ rfl ?_ ?_ ?_ ?_ | refine WkL.pickAt [_, _] [9] ?_ ?_ ?_ rfl ?_ ?_ ?_ ?_ | refine WkL.pickAt [_, _] [10] ?_ ?_ ?_ rfl ?_ ?_ ?_ ?_ | refine WkL.pickAt [_, _] [11] ?_ ?_ ?_ rfl ?_ ?_ ?_ ?_ | refine WkL.pickAt [_, _] [12] ?_ ?_ ?_ rfl ?_ ?_ ?_ ?_ | refine WkL.pickAt [_, _] [13] ?_ ?_ ?_ rfl ?_ ?_ ?_ ?_ | refine WkL.pickAt [_, _] [14] ?_ ?_ ?_ rfl ?_ ?_ ?_ ?_ | refine WkL.pickAt [_, _] [15] ?_ ?_ ?_ rfl ?_ ?_ ?_ ?_ | refine WkL.pickAt [_, _] [16] ?_ ?_ ?_ rfl ?_ ?_ ?_ ?_ | refine WkL.pickAt [_, _] [17] ?_ ?_ ?_ rfl ?_ ?_ ?_ ?_) <;> first | assumption | exact HOk.str (by assumption) | (simp; done) | (simp; omega) | (simp [pureO_gr, AObj.pureO, pureL, go_sem, AC.pure]; done) | (simp only [List.all_cons, List.all_nil, Bool.and_true]; exact pureO_gr (pureL_map _ (fun x => by simp [go_sem, AC.pure]))) | ((try simp only [List.map_cons, List.map_nil, av_ren_gr]); simp [AV.ren, AV.ren1, AC.ren, pickS]; first | done | omega) | (simp only [List.forall_mem_cons, List.not_mem_nil, false_implies, implies_true, and_true]; (repeat' apply And.intro) <;> first | trivial | exact grV_ok (by simp) _ | exact okN_grO (fun x => by simp [go_sem, AC.pure]) | exact okN_map (fun x => by simp [go_sem, AC.pure]) | (simp [AV.ok, AV.ok1, AC.ok]; done) | (simp [AV.ok, AV.ok1, AC.ok]; omega) | (simp [AObj.okN, AC.ok]; done)) | (simp [AObj.okN]; done)))
    · have c2 : meets w0 w1 h[k] = false := decide_eq_false c
      rw [c2, if_neg (by simp), List.append_nil] at hnx
      simp (disch := first | omega | (simp only [go_sem]; first | done | omega)) only [go_sem]
      exact Next.mk (k + 1) ⟨by omega, by omega⟩ (by rw [hnx]; ((try simp (disch := first | omega | (simp only [go_sem]; first | done | omega)) only [go_sem]); (first | refine WkL.pickAt [_, _] [0] ?_ ?_ ?_ rfl ?_ ?_ ?_ ?_ | refine WkL.pickAt [_, _] [1] ?_ ?_ ?_ rfl ?_ ?_ ?_ ?_ | refine WkL.pickAt [_, _] [2] ?_ ?_ ?_ rfl ?_ ?_ ?_ ?_ | refine WkL.pickAt [_, _] [3] ?_ ?_ ?_ rfl ?_ ?_ ?_ ?_ | refine WkL.pickAt [_, _] [4] ?_ ?_ ?_ rfl ?_ ?_ ?_ ?_ | refine WkL.pickAt [_, _] [5] ?_ ?_ ?_ rfl ?_ ?_ ?_ ?_ | refine WkL.pickAt [_, _] [6] ?_ ?_ ?_ rfl ?_ ?_ ?_ ?_ | refine WkL.pickAt [_, _] [7] ?_ ?_ ?_ rfl ?_ ?_ ?_ ?_ | refine WkL.pickAt [_, _] [8] ?_ ?_ ?_ rfl ?_ ?_ ?_ ?_ | refine WkL.pickAt [_, _] [9] ?_ ?_ ?_ rfl ?_ ?_ ?_ ?_ | refine WkL.pickAt [_, _] [10] ?_ ?_ ?_ rfl ?_ ?_ ?_ ?_ | refine WkL.pickAt [_, _] [11] ?_ ?_ ?_ rfl ?_ ?_ ?_ ?_ | refine WkL.pickAt [_, _] [12] ?_ ?_ ?_ rfl ?_ ?_ ?_ ?_ | refine WkL.pickAt [_, _] [13] ?_ ?_ ?_ rfl ?_ ?_ ?_ ?_ | refine WkL.pickAt [_, _] [14] ?_ ?_ ?_ rfl ?_ ?_ ?_ ?_ | refine WkL.pickAt [_, _] [15] ?_ ?_ ?_ rfl ?_ ?_ ?_ ?_ | refine WkL.pickAt [_, _] [16] ?_ ?_ ?_ rfl ?_ ?_ ?_ ?_ | refine WkL.pickAt [_, _] [17] ?_ ?_ ?_ rfl ?_ ?_ ?_ ?_) <;> first | assumption | exact HOk.str (by assumption) | (simp; done) | (simp; omega) | (simp [pureO_gr, AObj.pureO, pureL, go_sem, AC.pure]; done) | (simp only [List.all_cons, List.all_nil, Bool.and_true]; exact pureO_gr (pureL_map _ (fun x => by simp [go_sem, AC.pure]))) | ((try simp only [List.map_cons, List.map_nil, av_ren_gr]); simp [AV.ren, AV.ren1, AC.ren, pickS]; first | done | omega) | (simp only [List.forall_mem_cons, List.not_mem_nil, false_implies, implies_true, and_true]; (repeat' apply And.intro) <;> first | trivial | exact grV_ok (by simp) _ | exact okN_grO (fun x => by simp [go_sem, AC.pure]) | exact okN_map (fun x => by simp [go_sem, AC.pure]) | (simp [AV.ok, AV.ok1, AC.ok]; done) | (simp [AV.ok, AV.ok1, AC.ok]; omega) | (simp [AObj.okN, AC.ok]; done)) | (simp [AObj.okN]; done)))
  · rw [List.take_of_length_le (by omega)] at hfl ⊢
    have hl12 : (h.filter (meets w0 w1)).length ≤ 12 := by have h1 := List.length_filter_le (meets w0 w1) h; omega
    simp (disch := first | omega | (simp only [go_sem]; first | done | omega)) only [go_sem]
    refine sortH_a _ (fun x y => if x.made < y.made then -1 else if y.made < x.made then 1 else 0) madeLt (fun _ => True) (by kernel_rfl) (fun x y _ _ => by rw [cmp_lt x.made y.made]; simp [madeLt]) (fun x y H K _ _ hK => until1_a x y hK) (h.filter (meets w0 w1)) (by first | exact at0 (by simp) | exact at1 (by simp) | exact at2 (by simp) | exact at3 (by simp) | exact at4 (by simp) | exact at5 (by simp) | exact atG 6 (by simp) rfl | exact atG 7 (by simp) rfl | exact atG 8 (by simp) rfl | exact atG 9 (by simp) rfl | exact atG 10 (by simp) rfl | assumption) (fun _ _ => trivial) hl12 ?_
    simp (disch := first | omega | (simp only [go_sem]; first | done | omega)) only [go_sem]
    have hSl : (isortG madeLt (h.filter (meets w0 w1))).length = (h.filter (meets w0 w1)).length := isortG_len _ _
    have hSn : ∀ y ∈ isortG madeLt (h.filter (meets w0 w1)), y.near := fun y hy => hn y (List.mem_filter.1 ((isortG_mem _ _ _).1 hy)).1
    have hU : untilF x.keep h w0 w1 = (isortG madeLt (h.filter (meets w0 w1))).foldl stepU (w1 + x.keep) := rfl
    generalize isortG madeLt (h.filter (meets w0 w1)) = S at *
    obtain ⟨n, hnn⟩ : ∃ n, n = (h.filter (meets w0 w1)).length := ⟨_, rfl⟩
    refine AWp.loop (H.length + 3) [44, 45] [46, 10] (fun (k : Nat) => k ≤ n) (fun (k : Nat) => [(46, (.c (.int .i64 k))), (10, (.c (.int .i64 ((S.take k).foldl stepU (w1 + x.keep)))))]) (fun (k : Nat) => H ++ [.row 127 2 [encL x] true, .row 35 2 [[.int .i64 w0, .int .i64 w1]] true, grO 130 6 (S.map encH)]) (fun (k : Nat) => n - k) (by kernel_rfl) (fun _ => rfl) (by kernel_rfl) (by simp) (by first | (simp; done) | (simp; omega)) (by (try simp only [List.forall_mem_cons, List.not_mem_nil, false_implies, implies_true, and_true]); (try simp (disch := first | omega | (simp only [go_sem]; first | done | omega)) only [go_sem]); all_goals first | trivial | (simp [AV.ok, AV.ok1, AC.ok]; done) | (simp [AV.ok, AV.ok1, AC.ok]; omega) | (simp [AV.ok, AV.ok1, AC.ok]; assumption) | ((repeat' apply And.intro) <;> first | trivial | (simp [AV.ok, AV.ok1, AC.ok]; done) | (simp [AV.ok, AV.ok1, AC.ok]; omega) | (simp [AV.ok, AV.ok1, AC.ok]; assumption) | (refine grV_ok ?_ _; first | (simp; done) | (simp; omega) | omega))) ?_ (fun k hkb _ _ => ?_)
    · exact Next.mk 0 (by omega) (by (try simp (disch := first | omega | (simp only [go_sem]; first | done | omega)) only [go_sem]); (first | refine WkL.eq ?_ ?_ | refine WkL.rest (by assumption) ?_ ?_ ?_ | refine WkL.keepL (by assumption) rfl ?_ ?_ ?_ ?_) <;> first | rfl | (simp; done) | (simp; omega) | (simp only [List.cons.injEq, AV.c.injEq, AC.int.injEq, AC.bool.injEq, AC.str.injEq, and_true, true_and, Int.natCast_add, Int.natCast_one, Int.cast_ofNat_Int]; omega) | (simp [AV.ok, AV.ok1, AC.ok]; done) | (simp [AV.ok, AV.ok1, AC.ok]; omega) | (simp only [List.forall_mem_cons, List.not_mem_nil, false_implies, implies_true, and_true]; (repeat' apply And.intro) <;> first | exact okN_map (fun x => by simp [go_sem, AC.pure]) | exact okN_grO (fun x => by simp [go_sem, AC.pure]) | (simp [AObj.okN, AC.ok]; done) | (simp [AObj.okN, AC.ok]; omega)) | (simp [*]; done) | grind)
    have hbd := foldU_bd (S.take k) (w1 + x.keep) (fun y hy => hSn y (List.mem_of_mem_take hy)) (by omega) (by omega)
    by_cases hlt2 : k < n
    · have hkS : k < S.length := by omega
      have hlt3 : k < (h.filter (meets w0 w1)).length := by omega
      have hnx : (S.take (k + 1)).foldl stepU (w1 + x.keep) = stepU ((S.take k).foldl stepU (w1 + x.keep)) S[k] := by
        rw [List.take_succ_eq_append_getElem hkS, List.foldl_append]; rfl
      have hnk := hSn S[k] (List.getElem_mem hkS)
      simp only [Hold.near] at hnk
      generalize (S.take k).foldl stepU (w1 + x.keep) = a at *
      simp (disch := first | omega | (simp only [go_sem]; first | done | omega)) only [go_sem]
      refine acond_d (fun c => ?_) (fun c => ?_)
      · rw [stepU, if_pos c] at hnx
        simp (disch := first | omega | (simp only [go_sem]; first | done | omega)) only [go_sem]
        exact Next.mk (k + 1) ⟨by omega, by omega⟩ (by rw [hnx]; (try simp (disch := first | omega | (simp only [go_sem]; first | done | omega)) only [go_sem]); (first | refine WkL.eq ?_ ?_ | refine WkL.rest (by assumption) ?_ ?_ ?_ | refine WkL.keepL (by assumption) rfl ?_ ?_ ?_ ?_) <;> first | rfl | (simp; done) | (simp; omega) | (simp only [List.cons.injEq, AV.c.injEq, AC.int.injEq, AC.bool.injEq, AC.str.injEq, and_true, true_and, Int.natCast_add, Int.natCast_one, Int.cast_ofNat_Int]; omega) | (simp [AV.ok, AV.ok1, AC.ok]; done) | (simp [AV.ok, AV.ok1, AC.ok]; omega) | (simp only [List.forall_mem_cons, List.not_mem_nil, false_implies, implies_true, and_true]; (repeat' apply And.intro) <;> first | exact okN_map (fun x => by simp [go_sem, AC.pure]) | exact okN_grO (fun x => by simp [go_sem, AC.pure]) | (simp [AObj.okN, AC.ok]; done) | (simp [AObj.okN, AC.ok]; omega)) | (simp [*]; done) | grind)
      · rw [stepU, if_neg c] at hnx
        simp (disch := first | omega | (simp only [go_sem]; first | done | omega)) only [go_sem]
        exact Next.mk (k + 1) ⟨by omega, by omega⟩ (by rw [hnx]; (try simp (disch := first | omega | (simp only [go_sem]; first | done | omega)) only [go_sem]); (first | refine WkL.eq ?_ ?_ | refine WkL.rest (by assumption) ?_ ?_ ?_ | refine WkL.keepL (by assumption) rfl ?_ ?_ ?_ ?_) <;> first | rfl | (simp; done) | (simp; omega) | (simp only [List.cons.injEq, AV.c.injEq, AC.int.injEq, AC.bool.injEq, AC.str.injEq, and_true, true_and, Int.natCast_add, Int.natCast_one, Int.cast_ofNat_Int]; omega) | (simp [AV.ok, AV.ok1, AC.ok]; done) | (simp [AV.ok, AV.ok1, AC.ok]; omega) | (simp only [List.forall_mem_cons, List.not_mem_nil, false_implies, implies_true, and_true]; (repeat' apply And.intro) <;> first | exact okN_map (fun x => by simp [go_sem, AC.pure]) | exact okN_grO (fun x => by simp [go_sem, AC.pure]) | (simp [AObj.okN, AC.ok]; done) | (simp [AObj.okN, AC.ok]; omega)) | (simp [*]; done) | grind)
    · rw [List.take_of_length_le (by omega), ← hU]
      simp (disch := first | omega | (simp only [go_sem]; first | done | omega)) only [go_sem]
      exact Ret.drop hH (Nat.le_refl _) (by simp [AV.ok, AV.ok1, AC.ok]) hk
end Go.Proofs.YthgdllfkejlnmaaGreat
/- Whether data is kept: the program; what holds hold: the document's answer. Condition: few holds, numbers as those of levels. -/
namespace Go.Proofs.YthgdllfkejlnmaaGreat
open Go Go.RowKit
set_option maxRecDepth 100000
set_option linter.all false
set_option maxHeartbeats 1000000
variable {H : Hp} {K : AV → Hp → Prop}
def keepB (x : Level) (h : List Hold) (m t : Int) : Bool := decide (t ≤ untilF x.keep h (ivl x m).1 (ivl x m).2)
theorem ivl_bd (x : Level) (m : Int) (hx : x.ok) (hm : 0 ≤ m) (hm2 : m ≤ 400000000000) : 0 ≤ (ivl x m).1 ∧ (ivl x m).1 ≤ m ∧ m < (ivl x m).2 ∧ (ivl x m).2 ≤ 500000000000 := by
  obtain ⟨h0, h1, h2, h3⟩ := hx
  unfold ivl
  split
  · dsimp only; omega
  · rename_i hs
    have t0 : 0 ≤ m / x.step := Int.ediv_nonneg (by omega) (by omega)
    have t1 : m / x.step * x.step ≤ m := Int.ediv_mul_le _ hs
    have t2 : 0 ≤ m / x.step * x.step := Int.mul_nonneg t0 (by omega)
    have t3 : m < m / x.step * x.step + x.step := by have := Int.emod_lt_of_pos m (b := x.step) (by omega); have := Int.emod_add_ediv_mul m x.step; omega
    dsimp only; omega
theorem keeps_a (x : Level) (h : List Hold) (m t : Int) (hx : x.ok) (hlen : h.length ≤ 12) (hn : ∀ y ∈ h, y.near) (hm : 0 ≤ m) (hm2 : m ≤ 400000000000) (hk : K (.c (.bool (keepB x h m t))) H) : ACalls Tryz.prog 160 [.agg (encL x), .c (.lst 6 (h.map encH)), (.c (.int .i64 m)), (.c (.int .i64 t))] H K := by
  have hb := ivl_bd x m hx hm hm2
  obtain ⟨h0, h1, h2, h3⟩ := hx
  refine acalls Tryz.func160 rfl (by kernel_rfl) (by simp (disch := first | omega | (simp only [go_sem]; first | done | omega)) only [go_sem]) (fun hH => ?_)
  simp (disch := first | omega | (simp only [go_sem]; first | done | omega)) only [go_sem]
  repeat' (first | ((first | refine acond_d ?_ ?_ | refine acond_b ?_ ?_ | refine ag_d ?_ ?_ | refine ag_n ?_ ?_ | refine ag_bt ?_ ?_ | refine ag_bf ?_ ?_ | refine agt_d ?_ ?_ | refine agt_n ?_ ?_ | refine agt_bt ?_ ?_ | refine agt_bf ?_ ?_) <;> intro c <;> try simp (disch := first | omega | (simp only [go_sem]; first | done | omega)) only [go_sem, c]) | ((first | refine w_draw (by kernel_rfl) (by decide +kernel) ?_ | refine interval_a x m h0 h1 (by omega) (by omega) hm ?_ | refine until_a x h _ _ hlen hn (by omega) (by omega) ?_ | refine w_tree (.one 0 (.one 2 (.one 3 (.one 4 (.two 1 (.one 5 (.one 6 (.one 7 (.one 8 .done)))) 5 (.one 1 (.one 6 (.one 7 (.one 8 .done))))))))) (by kernel_rfl) (by decide +kernel) ?_) <;> try simp (disch := first | omega | (simp only [go_sem]; first | done | omega)) only [go_sem]) | (refine And.intro ?_ ?_ <;> try simp (disch := first | omega | (simp only [go_sem]; first | done | omega)) only [go_sem]))
  all_goals exact Ret.drop hH (Nat.le_refl _) (by simp [AV.ok, AV.ok1, AC.ok]) hk
/-- a hold that holds data of a tag and of some moment of a time, at a time -/
def hold1 (tag : ByteArray) (w0 w1 t : Int) (x : Hold) : Bool := decide ((x.tag = noS ∨ x.tag = tag) ∧ x.t0 < w1 ∧ w0 < x.t1 ∧ x.made ≤ t ∧ t < x.ends)
def heldB (h : List Hold) (tag : ByteArray) (w0 w1 t : Int) : Bool := h.any (hold1 tag w0 w1 t)
theorem heldAt1_a {i j k : Nat} {ty ty2 ty3 : Nat} {o o2 o3 : Bool} (x : Hold) (tag : ByteArray) (w0 w1 t : Int) (hi : H[i]? = some (.row ty 1 [[.str tag]] o)) (hj : H[j]? = some (.row ty2 2 [[.int .i64 w0, .int .i64 w1]] o2)) (hq : H[k]? = some (.row ty3 1 [[.int .i64 t]] o3)) (hk : K (.c (.bool (hold1 tag w0 w1 t x))) H) : ACalls Tryz.prog 171 [.agg (encH x), .c (.ptr (some (i, 0, 0))), .c (.ptr (some (j, 0, 0))), .c (.ptr (some (k, 0, 0)))] H K := by
  have hi1 := getElem?_lt hi
  have hj1 := getElem?_lt hj
  have hk1 := getElem?_lt hq
  refine acalls Tryz.func171 rfl (by kernel_rfl) (by simp (disch := first | omega | (simp only [go_sem]; first | done | omega)) only [go_sem]) (fun hH => ?_)
  simp (disch := first | omega | (simp only [go_sem]; first | done | omega)) only [go_sem, hi, hj, hq]
  repeat' (first | ((first | refine acond_d ?_ ?_ | refine acond_b ?_ ?_ | refine ag_d ?_ ?_ | refine ag_n ?_ ?_ | refine ag_bt ?_ ?_ | refine ag_bf ?_ ?_) <;> intro c <;> try simp (disch := first | omega | (simp only [go_sem]; first | done | omega)) only [go_sem, c, hi, hj, hq]) | ((first | refine w_draw (by kernel_rfl) (by decide +kernel) ?_) <;> try simp (disch := first | omega | (simp only [go_sem]; first | done | omega)) only [go_sem, hi, hj, hq]))
  all_goals exact Ret.dropE hH (Nat.le_refl _) hk trivial (by simp only [AV.c.injEq, AC.bool.injEq, hold1]; rw [Bool.eq_iff_iff]; simp only [decide_eq_true_eq, Bool.false_eq_true, false_iff]; grind)
theorem heldAt_a (h : List Hold) (tag : ByteArray) (w0 w1 t : Int) (hlen : h.length ≤ 1000) (hk : K (.c (.bool (heldB h tag w0 w1 t))) H) : ACalls Tryz.prog 105 [.c (.lst 6 (h.map encH)), (.c (.str tag)), .agg [.int .i64 w0, .int .i64 w1], (.c (.int .i64 t))] H K := by
  refine acalls Tryz.func105 rfl (by kernel_rfl) (by simp (disch := first | omega | (simp only [go_sem]; first | done | omega)) only [go_sem]) (fun hH => ?_)
  simp (disch := first | omega | (simp only [go_sem]; first | done | omega)) only [go_sem]
  refine containsH_a 171 [(H.length, 0, 0), (H.length + 1, 0, 0), (H.length + 2, 0, 0)] (hold1 tag w0 w1 t) (by kernel_rfl) (by simp; omega) h (fun x K _ hK => heldAt1_a x tag w0 w1 t (by first | exact at0 (by simp) | exact at1 (by simp) | exact at2 (by simp) | exact at3 (by simp) | exact at4 (by simp) | exact at5 (by simp) | exact atG 6 (by simp) rfl | exact atG 7 (by simp) rfl | exact atG 8 (by simp) rfl | exact atG 9 (by simp) rfl | exact atG 10 (by simp) rfl | assumption) (by first | exact at0 (by simp) | exact at1 (by simp) | exact at2 (by simp) | exact at3 (by simp) | exact at4 (by simp) | exact at5 (by simp) | exact atG 6 (by simp) rfl | exact atG 7 (by simp) rfl | exact atG 8 (by simp) rfl | exact atG 9 (by simp) rfl | exact atG 10 (by simp) rfl | assumption) (by first | exact at0 (by simp) | exact at1 (by simp) | exact at2 (by simp) | exact at3 (by simp) | exact at4 (by simp) | exact at5 (by simp) | exact atG 6 (by simp) rfl | exact atG 7 (by simp) rfl | exact atG 8 (by simp) rfl | exact atG 9 (by simp) rfl | exact atG 10 (by simp) rfl | assumption) hK) (by omega) ?_
  simp (disch := first | omega | (simp only [go_sem]; first | done | omega)) only [go_sem]
  exact Ret.drop hH (Nat.le_refl _) (by simp [AV.ok, AV.ok1, AC.ok]) hk
end Go.Proofs.YthgdllfkejlnmaaGreat
/- Whether data is kept: the document's answer. Condition: few holds, numbers as those of levels. -/
namespace Go.Proofs.YthgdllfkejlnmaaGreat
open Go Go.RowKit
set_option maxRecDepth 100000
set_option linter.all false
set_option maxHeartbeats 1000000
variable {H : Hp} {K : AV → Hp → Prop}
theorem indexI_a (f : FuncId) (caps : List (Nat × Nat × Nat)) (p : Int → Bool) (he : entersB Tryz.prog f = true) (hc : ∀ (a b c : Nat), (a, b, c) ∈ caps → a < H.length) (l : List Int) (hf : ∀ (x : Int) (K : AV → Hp → Prop), x ∈ l → K (.c (.bool (p x))) H → ACalls Tryz.prog f (.c (.int .i64 x) :: caps.map fun q => .c (.ptr (some q))) H K) (hlen : l.length ≤ 1099511627776) (hk : ∀ r : Int, (0 ≤ r ↔ l.any p = true) → K (.c (.int .i64 r)) H) : ACalls Tryz.prog 168 [.c (.lst 1 (l.map encI)), .c (.fn f [] caps)] H K := by
  refine acalls Tryz.func168 rfl (by kernel_rfl) (by simp (disch := first | omega | (simp only [go_sem]; first | done | omega)) only [go_sem]) (fun hH => ?_)
  simp (disch := first | omega | (simp only [go_sem]; first | done | omega)) only [go_sem]
  refine AWp.loop (H.length) [0, 1, 7] [8] (fun (k : Nat) => k ≤ l.length ∧ ∀ j (h : j < l.length), j < k → p l[j] = false) (fun (k : Nat) => [(8, (.c (.int .i64 k)))]) (fun (k : Nat) => H) (fun (k : Nat) => l.length - k) (by kernel_rfl) (fun _ => rfl) (by kernel_rfl) (by simp) (by first | (simp; done) | (simp; omega)) (by (try simp only [List.forall_mem_cons, List.not_mem_nil, false_implies, implies_true, and_true]); (try simp (disch := first | omega | (simp only [go_sem]; first | done | omega)) only [go_sem]); all_goals first | trivial | (simp [AV.ok, AV.ok1, AC.ok]; done) | (simp [AV.ok, AV.ok1, AC.ok]; omega) | (simp [AV.ok, AV.ok1, AC.ok]; assumption) | ((repeat' apply And.intro) <;> first | trivial | (simp [AV.ok, AV.ok1, AC.ok]; done) | (simp [AV.ok, AV.ok1, AC.ok]; omega) | (simp [AV.ok, AV.ok1, AC.ok]; assumption) | (refine grV_ok ?_ _; first | (simp; done) | (simp; omega) | omega))) ?_ (fun k hk1 _ _ => ?_)
  · exact Next.mk 0 (by simp) (by (try simp (disch := first | omega | (simp only [go_sem]; first | done | omega)) only [go_sem]); (first | refine WkL.eq ?_ ?_ | refine WkL.rest (by assumption) ?_ ?_ ?_ | refine WkL.keepL (by assumption) rfl ?_ ?_ ?_ ?_) <;> first | rfl | (simp; done) | (simp; omega) | (simp only [List.cons.injEq, AV.c.injEq, AC.int.injEq, AC.bool.injEq, AC.str.injEq, and_true, true_and, Int.natCast_add, Int.natCast_one, Int.cast_ofNat_Int]; omega) | (simp [AV.ok, AV.ok1, AC.ok]; done) | (simp [AV.ok, AV.ok1, AC.ok]; omega) | (simp only [List.forall_mem_cons, List.not_mem_nil, false_implies, implies_true, and_true]; (repeat' apply And.intro) <;> first | exact okN_map (fun x => by simp [go_sem, AC.pure]) | exact okN_grO (fun x => by simp [go_sem, AC.pure]) | (simp [AObj.okN, AC.ok]; done) | (simp [AObj.okN, AC.ok]; omega)) | (simp [*]; done) | grind)
  obtain ⟨hk1, hk2⟩ := hk1
  by_cases hlt : k < l.length
  · simp (disch := first | omega | (simp only [go_sem]; first | done | omega)) only [go_sem, he]
    refine hf l[k] _ (List.getElem_mem hlt) ?_
    simp (disch := first | omega | (simp only [go_sem]; first | done | omega)) only [go_sem]
    refine acond_b (fun c => ?_) (fun c => ?_)
    · simp (disch := first | omega | (simp only [go_sem]; first | done | omega)) only [go_sem]
      refine Ret.same (Nat.le_refl _) (hk k ?_)
      simp only [Int.natCast_nonneg, List.any_eq_true, true_iff]
      exact ⟨l[k], List.getElem_mem _, c⟩
    · simp (disch := first | omega | (simp only [go_sem]; first | done | omega)) only [go_sem]
      refine Next.mk (k + 1) ⟨⟨by omega, fun j h hj => ?_⟩, by omega⟩ (by (try simp (disch := first | omega | (simp only [go_sem]; first | done | omega)) only [go_sem]); (first | refine WkL.eq ?_ ?_ | refine WkL.rest (by assumption) ?_ ?_ ?_ | refine WkL.keepL (by assumption) rfl ?_ ?_ ?_ ?_) <;> first | rfl | (simp; done) | (simp; omega) | (simp only [List.cons.injEq, AV.c.injEq, AC.int.injEq, AC.bool.injEq, AC.str.injEq, and_true, true_and, Int.natCast_add, Int.natCast_one, Int.cast_ofNat_Int]; omega) | (simp [AV.ok, AV.ok1, AC.ok]; done) | (simp [AV.ok, AV.ok1, AC.ok]; omega) | (simp only [List.forall_mem_cons, List.not_mem_nil, false_implies, implies_true, and_true]; (repeat' apply And.intro) <;> first | exact okN_map (fun x => by simp [go_sem, AC.pure]) | exact okN_grO (fun x => by simp [go_sem, AC.pure]) | (simp [AObj.okN, AC.ok]; done) | (simp [AObj.okN, AC.ok]; omega)) | (simp [*]; done) | grind)
      rcases Nat.lt_or_ge j k with h1 | h1
      · exact hk2 j h h1
      · obtain rfl : j = k := by omega
        simpa using c
  · simp (disch := first | omega | (simp only [go_sem]; first | done | omega)) only [go_sem]
    refine Ret.same (Nat.le_refl _) (hk (-1) ?_)
    have : l.any p = false := by
      rw [List.any_eq_false]
      intro x hx
      obtain ⟨j, hj, rfl⟩ := List.getElem_of_mem hx
      simpa using hk2 j hj (by omega)
    simp [this]
theorem containsI_a (f : FuncId) (caps : List (Nat × Nat × Nat)) (p : Int → Bool) (he : entersB Tryz.prog f = true) (hc : ∀ (a b c : Nat), (a, b, c) ∈ caps → a < H.length) (l : List Int) (hf : ∀ (x : Int) (K : AV → Hp → Prop), x ∈ l → K (.c (.bool (p x))) H → ACalls Tryz.prog f (.c (.int .i64 x) :: caps.map fun q => .c (.ptr (some q))) H K) (hlen : l.length ≤ 1099511627776) (hk : K (.c (.bool (l.any p))) H) : ACalls Tryz.prog 100 [.c (.lst 1 (l.map encI)), .c (.fn f [] caps)] H K := by
  refine acalls Tryz.func100 rfl (by kernel_rfl) (by simp (disch := first | omega | (simp only [go_sem]; first | done | omega)) only [go_sem]) (fun hH => ?_)
  simp (disch := first | omega | (simp only [go_sem]; first | done | omega)) only [go_sem]
  refine indexI_a f caps p he hc l hf hlen (fun r hr => ?_)
  simp (disch := first | omega | (simp only [go_sem]; first | done | omega)) only [go_sem]
  refine Ret.same (Nat.le_refl _) ?_
  rw [show decide (0 ≤ r) = l.any p by rw [Bool.eq_iff_iff, decide_eq_true_eq]; exact hr]
  exact hk
def timesF (first t : Int) (h : List Hold) : List Int := [first, t] ++ h.flatMap (fun x => [x.made, x.ends].filter (fun u => decide (first ≤ u ∧ u ≤ t)))
def keepRB (x : Level) (h : List Hold) (tag : ByteArray) (m t : Int) : Bool :=
  if t < (ivl x m).2 + x.keep + 1 then true else !(timesF ((ivl x m).2 + x.keep + 1) t h).any (fun u => !heldB h tag (ivl x m).1 (ivl x m).2 u)
theorem keepsR1_a {i j k : Nat} {ty ty2 ty3 : Nat} {o o2 o3 : Bool} (h : List Hold) (tag : ByteArray) (w0 w1 t : Int) (hlen : h.length ≤ 1000) (hi : H[i]? = some (.row ty 1 [[.lst 6 (h.map encH)]] o)) (hj : H[j]? = some (.row ty2 1 [[.str tag]] o2)) (hq : H[k]? = some (.row ty3 2 [[.int .i64 w0, .int .i64 w1]] o3)) (hk : K (.c (.bool (!heldB h tag w0 w1 t))) H) : ACalls Tryz.prog 169 [(.c (.int .i64 t)), .c (.ptr (some (i, 0, 0))), .c (.ptr (some (j, 0, 0))), .c (.ptr (some (k, 0, 0)))] H K := by
  have hi1 := getElem?_lt hi
  have hj1 := getElem?_lt hj
  have hk1 := getElem?_lt hq
  refine acalls Tryz.func169 rfl (by kernel_rfl) (by simp (disch := first | omega | (simp only [go_sem]; first | done | omega)) only [go_sem]) (fun hH => ?_)
  simp (disch := first | omega | (simp only [go_sem]; first | done | omega)) only [go_sem, hi, hj, hq]
  refine heldAt_a h tag w0 w1 t hlen ?_
  simp (disch := first | omega | (simp only [go_sem]; first | done | omega)) only [go_sem, hi, hj, hq]
  exact Ret.same (Nat.le_refl _) hk
theorem timesF_next (first t : Int) {h : List Hold} {k : Nat} (hk : k < h.length) : timesF first t (h.take (k + 1)) = timesF first t (h.take k) ++ (if first ≤ h[k].made ∧ h[k].made ≤ t then [h[k].made] else []) ++ (if first ≤ h[k].ends ∧ h[k].ends ≤ t then [h[k].ends] else []) := by
  rw [List.take_succ_eq_append_getElem hk]
  unfold timesF
  rw [List.flatMap_append, ← List.append_assoc, List.append_assoc (_ ++ _)]
  congr 1
  by_cases c1 : first ≤ h[k].made ∧ h[k].made ≤ t <;> by_cases c2 : first ≤ h[k].ends ∧ h[k].ends ≤ t <;> simp [c1, c2]
theorem timesF_len (first t : Int) (h : List Hold) : (timesF first t h).length ≤ 2 + 2 * h.length := by
  have key : ∀ k, k ≤ h.length → (timesF first t (h.take k)).length ≤ 2 + 2 * k := by
    intro k
    induction k with
    | zero => simp [timesF]
    | succ k ih =>
      intro hk
      have := ih (by omega)
      rw [timesF_next first t (by omega), List.length_append, List.length_append]
      split <;> split <;> simp <;> omega
  have := key h.length (Nat.le_refl _)
  rwa [List.take_length] at this
theorem keepsR_a (x : Level) (h : List Hold) (tag : ByteArray) (m t : Int) (hx : x.ok) (hlen : h.length ≤ 12) (hn : ∀ y ∈ h, y.near) (hm : 0 ≤ m) (hm2 : m ≤ 400000000000) (hk : K (.c (.bool (keepRB x h tag m t))) H) : ACalls Tryz.prog 102 [.agg (encL x), .c (.lst 6 (h.map encH)), (.c (.str tag)), (.c (.int .i64 m)), (.c (.int .i64 t))] H K := by
  have hb := ivl_bd x m hx hm hm2
  obtain ⟨h0, h1, h2, h3⟩ := hx
  refine acalls Tryz.func102 rfl (by kernel_rfl) (by simp (disch := first | omega | (simp only [go_sem]; first | done | omega)) only [go_sem]) (fun hH => ?_)
  simp (disch := first | omega | (simp only [go_sem]; first | done | omega)) only [go_sem]
  refine intervalR_a x m h0 h1 (by omega) hm ?_
  simp (disch := first | omega | (simp only [go_sem]; first | done | omega)) only [go_sem]
  obtain ⟨w0, hw0⟩ : ∃ w0, w0 = (ivl x m).1 := ⟨_, rfl⟩
  obtain ⟨w1, hw1⟩ : ∃ w1, w1 = (ivl x m).2 := ⟨_, rfl⟩
  unfold keepRB at hk
  rw [← hw0, ← hw1] at hb hk ⊢
  obtain ⟨fst, hfst⟩ : ∃ f, f = w1 + x.keep + 1 := ⟨_, rfl⟩
  rw [← hfst] at hk ⊢
  refine acond_d (fun c => ?_) (fun c => ?_)
  · rw [if_pos c] at hk
    simp (disch := first | omega | (simp only [go_sem]; first | done | omega)) only [go_sem]
    exact Ret.drop hH (Nat.le_refl _) (by simp [AV.ok, AV.ok1, AC.ok]) hk
  rw [if_neg c] at hk
  simp (disch := first | omega | (simp only [go_sem]; first | done | omega)) only [go_sem]
  refine AWp.loop (H.length + 4) [4, 6, 7, 11, 12, 33, 34] [35, 13] (fun (k : Nat) => k ≤ h.length) (fun (k : Nat) => [(35, (.c (.int .i64 k))), (13, .c (grV (H.length + 4) (timesF fst t (h.take k))))]) (fun (k : Nat) => H ++ [.row 127 2 [encL x] true, .row 28 1 [[.lst 6 (h.map encH)]] true, .row 9 1 [[.str tag]] true, .row 35 2 [[.int .i64 w0, .int .i64 w1]] true, grO 3 1 ((timesF fst t (h.take k)).map encI)]) (fun (k : Nat) => h.length - k) (by kernel_rfl) (fun _ => rfl) (by kernel_rfl) (by simp) (by first | (simp; done) | (simp; omega)) (by (try simp only [List.forall_mem_cons, List.not_mem_nil, false_implies, implies_true, and_true]); (try simp (disch := first | omega | (simp only [go_sem]; first | done | omega)) only [go_sem]); all_goals first | trivial | (simp [AV.ok, AV.ok1, AC.ok]; done) | (simp [AV.ok, AV.ok1, AC.ok]; omega) | (simp [AV.ok, AV.ok1, AC.ok]; assumption) | ((repeat' apply And.intro) <;> first | trivial | (simp [AV.ok, AV.ok1, AC.ok]; done) | (simp [AV.ok, AV.ok1, AC.ok]; omega) | (simp [AV.ok, AV.ok1, AC.ok]; assumption) | (refine grV_ok ?_ _; first | (simp; done) | (simp; omega) | omega))) ?_ (fun k hkb _ _ => ?_)
  · refine Next.mk 0 (by omega) ?_
    simp (disch := first | omega | (simp only [go_sem]; first | done | omega)) only [go_sem]
    exact WkL.refl (by simp)
  have htl := timesF_len fst t (h.take k)
  have htk : (h.take k).length ≤ h.length := by rw [List.length_take]; omega
  by_cases hlt : k < h.length
  · have hnx := timesF_next fst t hlt
    have hnk := hn h[k] (List.getElem_mem hlt)
    simp only [Hold.near] at hnk
    obtain ⟨T, hT⟩ : ∃ T, T = timesF fst t (h.take k) := ⟨_, rfl⟩
    rw [← hT] at hnx htl ⊢
    simp (disch := first | omega | (simp only [go_sem]; first | done | omega)) only [go_sem]
    refine AWp.rounds 2 (by kernel_rfl) ?_
    simp (disch := first | omega | (simp only [go_sem]; first | done | omega)) only [go_sem]
    by_cases c1 : fst ≤ h[k].made <;> by_cases c2 : h[k].made ≤ t
    all_goals simp (disch := first | omega | (simp only [go_sem]; first | done | omega)) only [go_sem, c1, c2]
    all_goals simp only [c1, c2, and_self, and_true, and_false, true_and, false_and, if_true, if_false, List.append_nil] at hnx
    all_goals
      obtain ⟨T1, hT1⟩ : ∃ T1, T1 = T ++ [h[k].made] := ⟨_, rfl⟩
      have hT1l : T1.length = T.length + 1 := by rw [hT1]; simp
      try rw [← hT1] at hnx
    all_goals try ((refine app_gr (enc := encI) (e := 3) (sz := 1) (bs := 8) (z := [.int .i64 0]) (T) (h[k].made) (by kernel_rfl) (by kernel_rfl) (by kernel_rfl) (by kernel_rfl) (by first | exact at0 (by simp) | exact at1 (by simp) | exact at2 (by simp) | exact at3 (by simp) | exact at4 (by simp) | exact at5 (by simp) | exact atG 6 (by simp) rfl | exact atG 7 (by simp) rfl | exact atG 8 (by simp) rfl | exact atG 9 (by simp) rfl | exact atG 10 (by simp) rfl | assumption) (by first | (simp (disch := first | omega | (simp only [go_sem]; first | done | omega)) only [go_sem]; done) | (simp (disch := first | omega | (simp only [go_sem]; first | done | omega)) only [go_sem]; rfl) | (simp (disch := first | omega | (simp only [go_sem]; first | done | omega)) only [go_sem]; simp [go_sem]; done) | (simp (disch := first | omega | (simp only [go_sem]; first | done | omega)) only [go_sem]; simp [*]; done)) rfl (by decide) (by omega) (by omega) (by rfl) ?_); rw [← hT1]; simp (disch := first | omega | (simp only [go_sem]; first | done | omega)) only [go_sem])
    all_goals by_cases d1 : fst ≤ h[k].ends <;> by_cases d2 : h[k].ends ≤ t
    all_goals try simp (disch := first | omega | (simp only [go_sem]; first | done | omega)) only [go_sem, d1, d2]
    all_goals try simp only [d1, d2, and_self, and_true, and_false, true_and, false_and, if_true, if_false, List.append_nil] at hnx
    all_goals first
      | (exfalso; omega)
      | ((refine app_gr (enc := encI) (e := 3) (sz := 1) (bs := 8) (z := [.int .i64 0]) (_) (h[k].ends) (by kernel_rfl) (by kernel_rfl) (by kernel_rfl) (by kernel_rfl) (by first | exact at0 (by simp) | exact at1 (by simp) | exact at2 (by simp) | exact at3 (by simp) | exact at4 (by simp) | exact at5 (by simp) | exact atG 6 (by simp) rfl | exact atG 7 (by simp) rfl | exact atG 8 (by simp) rfl | exact atG 9 (by simp) rfl | exact atG 10 (by simp) rfl | assumption) (by first | (simp (disch := first | omega | (simp only [go_sem]; first | done | omega)) only [go_sem]; done) | (simp (disch := first | omega | (simp only [go_sem]; first | done | omega)) only [go_sem]; rfl) | (simp (disch := first | omega | (simp only [go_sem]; first | done | omega)) only [go_sem]; simp [go_sem]; done) | (simp (disch := first | omega | (simp only [go_sem]; first | done | omega)) only [go_sem]; simp [*]; done)) rfl (by decide) (by omega) (by omega) (by rfl) ?_)
         simp (disch := first | omega | (simp only [go_sem]; first | done | omega)) only [go_sem]
         exact Next.mk (k + 1) ⟨by omega, by omega⟩ (by rw [hnx]; ((try simp (disch := first | omega | (simp only [go_sem]; first | done | omega)) only [go_sem]); (first | refine WkL.pickAt [_, _, _, _] [0] ?_ ?_ ?_ rfl ?_ ?_ ?_ ?_ | refine WkL.pickAt [_, _, _, _] [1] ?_ ?_ ?_ rfl ?_ ?_ ?_ ?_ | refine WkL.pickAt [_, _, _, _] [2] ?_ ?_ ?_ rfl ?_ ?_ ?_ ?_ | refine WkL.pickAt [_, _, _, _] [3] ?_ ?_ ?_ rfl ?_ ?_ ?_ ?_ | refine WkL.pickAt [_, _, _, _] [4] ?_ ?_ ?_ rfl ?_ ?_ ?_ ?_ | refine WkL.pickAt [_, _, _, _] [5] ?_ ?_ ?_ rfl ?_ ?_ ?_ ?_ | refine WkL.pickAt [_, _, _, _] [6] ?_ ?_ ?_ rfl ?_ ?_ ?_ ?_ | refine WkL.pickAt [_, _, _, _] [7] ?_ ?_ ?_ rfl ?_ ?_ ?_ ?_ | refine WkL.pickAt [_, _, _, _] [8] ?_ ?_ ?_ rfl ?_ ?_ ?_ ?_ | refine WkL.pickAt [_, _, _, _] [9] ?_ ?_ ?_ rfl ?_ ?_ ?_ ?_ | refine WkL.pickAt [_, _, _, _] [10] ?_ ?_ ?_ rfl ?_ ?_ ?_ ?_ | refine WkL.pickAt [_, _, _, _] [11] ?_ ?_ ?_ rfl ?_ ?_ ?_ ?_ | refine WkL.pickAt [_, _, _, _] [12] ?_ ?_ ?_ rfl ?_ ?_ ?_ ?_ | refine WkL.pickAt [_, _, _, _] [13] ?_ ?_ ?_ rfl ?_ ?_ ?_ ?_ | refine WkL.pickAt [_, _, _, _] [14] ?_ ?_ ?_ rfl ?_ ?_ ?_ ?_ | refine WkL.pickAt [_, _, _, _] [15] ?_ ?_ ?_ rfl ?_ ?_ ?_ ?_ | refine WkL.pickAt [_, _, _, _] [16] ?_ ?_ ?_ rfl ?_ ?_ ?_ ?_ | refine WkL.pickAt [_, _, _, _] [17] ?_ ?_ ?_ rfl ?_ ?_ ?_ ?_) <;> first | assumption | exact HOk.str (by assumption) | (simp; done) | (simp; omega) | (simp [pureO_gr, AObj.pureO, pureL, go_sem, AC.pure]; done) | (simp only [List.all_cons, List.all_nil, Bool.and_true]; exact pureO_gr (pureL_map _ (fun x => by simp [go_sem, AC.pure]))) | ((try simp only [List.map_cons, List.map_nil, av_ren_gr]); simp [AV.ren, AV.ren1, AC.ren, pickS]; first | done | omega) | (simp only [List.forall_mem_cons, List.not_mem_nil, false_implies, implies_true, and_true]; (repeat' apply And.intro) <;> first | trivial | exact grV_ok (by simp) _ | exact okN_grO (fun x => by simp [go_sem, AC.pure]) | exact okN_map (fun x => by simp [go_sem, AC.pure]) | (simp [AV.ok, AV.ok1, AC.ok]; done) | (simp [AV.ok, AV.ok1, AC.ok]; omega) | (simp [AObj.okN, AC.ok]; done)) | (simp [AObj.okN]; done))))
      | exact Next.mk (k + 1) ⟨by omega, by omega⟩ (by rw [hnx]; ((try simp (disch := first | omega | (simp only [go_sem]; first | done | omega)) only [go_sem]); (first | refine WkL.pickAt [_, _, _, _] [0] ?_ ?_ ?_ rfl ?_ ?_ ?_ ?_ | refine WkL.pickAt [_, _, _, _] [1] ?_ ?_ ?_ rfl ?_ ?_ ?_ ?_ | refine WkL.pickAt [_, _, _, _] [2] ?_ ?_ ?_ rfl ?_ ?_ ?_ ?_ | refine WkL.pickAt [_, _, _, _] [3] ?_ ?_ ?_ rfl ?_ ?_ ?_ ?_ | refine WkL.pickAt [_, _, _, _] [4] ?_ ?_ ?_ rfl ?_ ?_ ?_ ?_ | refine WkL.pickAt [_, _, _, _] [5] ?_ ?_ ?_ rfl ?_ ?_ ?_ ?_ | refine WkL.pickAt [_, _, _, _] [6] ?_ ?_ ?_ rfl ?_ ?_ ?_ ?_ | refine WkL.pickAt [_, _, _, _] [7] ?_ ?_ ?_ rfl ?_ ?_ ?_ ?_ | refine WkL.pickAt [_, _, _, _] [8] ?_ ?_ ?_ rfl ?_ ?_ ?_ ?_ | refine WkL.pickAt [_, _, _, _] [9] ?_ ?_ ?_ rfl ?_ ?_ ?_ ?_ | refine WkL.pickAt [_, _, _, _] [10] ?_ ?_ ?_ rfl ?_ ?_ ?_ ?_ | refine WkL.pickAt [_, _, _, _] [11] ?_ ?_ ?_ rfl ?_ ?_ ?_ ?_ | refine WkL.pickAt [_, _, _, _] [12] ?_ ?_ ?_ rfl ?_ ?_ ?_ ?_ | refine WkL.pickAt [_, _, _, _] [13] ?_ ?_ ?_ rfl ?_ ?_ ?_ ?_ | refine WkL.pickAt [_, _, _, _] [14] ?_ ?_ ?_ rfl ?_ ?_ ?_ ?_ | refine WkL.pickAt [_, _, _, _] [15] ?_ ?_ ?_ rfl ?_ ?_ ?_ ?_ | refine WkL.pickAt [_, _, _, _] [16] ?_ ?_ ?_ rfl ?_ ?_ ?_ ?_ | refine WkL.pickAt [_, _, _, _] [17] ?_ ?_ ?_ rfl ?_ ?_ ?_ ?_) <;> first | assumption | exact HOk.str (by assumption) | (simp; done) | (simp; omega) | (simp [pureO_gr, AObj.pureO, pureL, go_sem, AC.pure]; done) | (simp only [List.all_cons, List.all_nil, Bool.and_true]; exact pureO_gr (pureL_map _ (fun x => by simp [go_sem, AC.pure]))) | ((try simp only [List.map_cons, List.map_nil, av_ren_gr]); simp [AV.ren, AV.ren1, AC.ren, pickS]; first | done | omega) | (simp only [List.forall_mem_cons, List.not_mem_nil, false_implies, implies_true, and_true]; (repeat' apply And.intro) <;> first | trivial | exact grV_ok (by simp) _ | exact okN_grO (fun x => by simp [go_sem, AC.pure]) | exact okN_map (fun x => by simp [go_sem, AC.pure]) | (simp [AV.ok, AV.ok1, AC.ok]; done) | (simp [AV.ok, AV.ok1, AC.ok]; omega) | (simp [AObj.okN, AC.ok]; done)) | (simp [AObj.okN]; done)))
  · rw [List.take_of_length_le (by omega)] at htl ⊢
    simp (disch := first | omega | (simp only [go_sem]; first | done | omega)) only [go_sem]
    refine ACalls.litGr (by first | exact at0 (by simp) | exact at1 (by simp) | exact at2 (by simp) | exact at3 (by simp) | exact at4 (by simp) | exact at5 (by simp) | exact atG 6 (by simp) rfl | exact atG 7 (by simp) rfl | exact atG 8 (by simp) rfl | exact atG 9 (by simp) rfl | exact atG 10 (by simp) rfl | assumption) (by simp) (pureL_map _ (fun x => by simp [go_sem, AC.pure])) rfl ?_
    simp (disch := first | omega | (simp only [go_sem]; first | done | omega)) only [go_sem]
    refine containsI_a 169 [(H.length + 1, 0, 0), (H.length + 2, 0, 0), (H.length + 3, 0, 0)] (fun u => !heldB h tag w0 w1 u) (by kernel_rfl) (by simp; omega) (timesF fst t h) (fun u K _ hK => keepsR1_a h tag w0 w1 u (by omega) (by first | exact at0 (by simp) | exact at1 (by simp) | exact at2 (by simp) | exact at3 (by simp) | exact at4 (by simp) | exact at5 (by simp) | exact atG 6 (by simp) rfl | exact atG 7 (by simp) rfl | exact atG 8 (by simp) rfl | exact atG 9 (by simp) rfl | exact atG 10 (by simp) rfl | assumption) (by first | exact at0 (by simp) | exact at1 (by simp) | exact at2 (by simp) | exact at3 (by simp) | exact at4 (by simp) | exact at5 (by simp) | exact atG 6 (by simp) rfl | exact atG 7 (by simp) rfl | exact atG 8 (by simp) rfl | exact atG 9 (by simp) rfl | exact atG 10 (by simp) rfl | assumption) (by first | exact at0 (by simp) | exact at1 (by simp) | exact at2 (by simp) | exact at3 (by simp) | exact at4 (by simp) | exact at5 (by simp) | exact atG 6 (by simp) rfl | exact atG 7 (by simp) rfl | exact atG 8 (by simp) rfl | exact atG 9 (by simp) rfl | exact atG 10 (by simp) rfl | assumption) hK) (by omega) ?_
    simp (disch := first | omega | (simp only [go_sem]; first | done | omega)) only [go_sem]
    exact Ret.drop hH (Nat.le_refl _) (by simp [AV.ok, AV.ok1, AC.ok]) hk
end Go.Proofs.YthgdllfkejlnmaaGreat
/- Both ways to ask whether data is kept are one: no program in sight. Condition: the holds' times are right. -/
namespace Go.Proofs.YthgdllfkejlnmaaGreat
open Go Go.RowKit
set_option maxRecDepth 100000
set_option linter.all false
theorem foldU_ge : ∀ (l : List Hold) (a : Int), a ≤ l.foldl stepU a
  | [], a => Int.le_refl _
  | x :: l, a => by
    rw [List.foldl_cons]
    refine Int.le_trans ?_ (foldU_ge l _)
    unfold stepU; split <;> omega
theorem foldU_is : ∀ (l : List Hold) (a : Int), l.foldl stepU a = a ∨ ∃ y ∈ l, l.foldl stepU a = y.ends - 1
  | [], a => .inl rfl
  | x :: l, a => by
    rw [List.foldl_cons]
    rcases foldU_is l (stepU a x) with h | ⟨y, hy, h⟩
    · rw [h]
      unfold stepU
      split
      · rcases Int.le_total a (x.ends - 1) with h1 | h1
        · exact .inr ⟨x, by simp, by omega⟩
        · exact .inl (by omega)
      · exact .inl rfl
    · exact .inr ⟨y, by simp [hy], h⟩
/-- up to there all times are held -/
theorem foldU_all : ∀ (l : List Hold) (a u : Int), a < u → u ≤ l.foldl stepU a → ∃ y ∈ l, y.made ≤ u ∧ u < y.ends
  | [], a, u, h1, h2 => by simp at h2; omega
  | x :: l, a, u, h1, h2 => by
    rw [List.foldl_cons] at h2
    by_cases h3 : stepU a x < u
    · obtain ⟨y, hy, h4⟩ := foldU_all l _ u h3 h2
      exact ⟨y, by simp [hy], h4⟩
    · refine ⟨x, by simp, ?_⟩
      unfold stepU at h3
      split at h3 <;> omega
/-- the next time is not held, if the holds are sorted -/
theorem foldU_next : ∀ (l : List Hold) (a : Int), l.Pairwise (fun x y => x.made ≤ y.made) → ∀ y ∈ l, ¬(y.made ≤ l.foldl stepU a + 1 ∧ l.foldl stepU a + 1 < y.ends)
  | [], _, _, y, hy => by simp at hy
  | x :: l, a, h, y, hy => by
    rw [List.pairwise_cons] at h
    rw [List.foldl_cons]
    rcases List.mem_cons.1 hy with rfl | hy
    · by_cases h1 : y.made ≤ a + 1
      · have h2 := foldU_ge l (stepU a y)
        have h3 : y.ends - 1 ≤ stepU a y := by unfold stepU; rw [if_pos h1]; omega
        omega
      · have h2 : stepU a y = a := by unfold stepU; rw [if_neg h1]
        have h3 : ∀ (l : List Hold), (∀ z ∈ l, y.made ≤ z.made) → l.foldl stepU a = a := by
          intro l
          induction l with
          | nil => intro _; rfl
          | cons z l ih =>
            intro hz
            rw [List.foldl_cons]
            have : stepU a z = a := by unfold stepU; rw [if_neg (by have := hz z (by simp); omega)]
            rw [this]
            exact ih (fun w hw => hz w (by simp [hw]))
        rw [h2, h3 l h.1]
        omega
    · exact foldU_next l _ h.2 y hy
theorem keep_eq (x : Level) (h : List Hold) (tag : ByteArray) (m t : Int) (hx : x.ok) (hm : 0 ≤ m) (hm2 : m ≤ 400000000000) (hv : ∀ y ∈ h, y.t0 < y.t1) : keepRB x h tag m t = keepB x (ofF h tag) m t := by
  have hb := ivl_bd x m hx hm hm2
  unfold keepRB keepB untilF
  generalize (ivl x m).1 = w0 at *
  generalize (ivl x m).2 = w1 at *
  have hS : ∀ y, y ∈ isortG madeLt ((ofF h tag).filter (meets w0 w1)) ↔ y ∈ h ∧ (y.tag = noS ∨ y.tag = tag) ∧ y.t0 < w1 ∧ w0 < y.t1 := by
    intro y
    rw [isortG_mem, List.mem_filter, ofF, List.mem_filter]
    simp only [meets, decide_eq_true_eq]
    constructor
    · rintro ⟨⟨h1, h2⟩, h3⟩; exact ⟨h1, h2, by omega, by omega⟩
    · rintro ⟨h1, h2, h3, h4⟩; have := hv y h1; exact ⟨⟨h1, h2⟩, by omega⟩
  have hsort := isortG_sorted madeLt (fun y => y.made) (fun _ _ => rfl) ((ofF h tag).filter (meets w0 w1))
  generalize isortG madeLt ((ofF h tag).filter (meets w0 w1)) = S at *
  have hheld : ∀ u, heldB h tag w0 w1 u = true ↔ ∃ y ∈ S, y.made ≤ u ∧ u < y.ends := by
    intro u
    unfold heldB
    rw [List.any_eq_true]
    simp only [hold1, decide_eq_true_eq]
    constructor
    · rintro ⟨y, h1, h2, h3, h4, h5, h6⟩; exact ⟨y, (hS y).2 ⟨h1, h2, h3, h4⟩, h5, h6⟩
    · rintro ⟨y, h1, h5, h6⟩
      obtain ⟨h1, h2, h3, h4⟩ := (hS y).1 h1
      exact ⟨y, h1, h2, h3, h4, h5, h6⟩
  have hge := foldU_ge S (w1 + x.keep)
  have hnx := foldU_next S (w1 + x.keep) hsort
  have his := foldU_is S (w1 + x.keep)
  have hall := fun u => foldU_all S (w1 + x.keep) u
  generalize S.foldl stepU (w1 + x.keep) = U at *
  rw [Bool.eq_iff_iff]
  split
  · simp only [true_iff, decide_eq_true_eq]; omega
  · rename_i c
    rw [decide_eq_true_eq, Bool.not_eq_true', List.any_eq_false]
    constructor
    · intro h1
      apply Classical.byContradiction
      intro h2
      have hmem : U + 1 ∈ timesF (w1 + x.keep + 1) t h := by
        unfold timesF
        rw [List.mem_append]
        rcases his with h3 | ⟨y, hy, h3⟩
        · left; simp; omega
        · right
          rw [List.mem_flatMap]
          exact ⟨y, ((hS y).1 hy).1, by simp; omega⟩
      have h4 := h1 _ hmem
      rw [Bool.not_eq_true', Bool.not_eq_false] at h4
      obtain ⟨y, hy, h5⟩ := (hheld _).1 h4
      exact hnx y hy h5
    · intro h1 u hu
      rw [Bool.not_eq_true', Bool.not_eq_false]
      have hu2 : w1 + x.keep + 1 ≤ u ∧ u ≤ t := by
        unfold timesF at hu
        rw [List.mem_append, List.mem_flatMap] at hu
        rcases hu with h3 | ⟨y, _, h3⟩
        · simp at h3; omega
        · simp at h3; omega
      exact (hheld u).2 (hall u (by omega) (by omega))
end Go.Proofs.YthgdllfkejlnmaaGreat
