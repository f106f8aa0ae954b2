/- Several texts in one: Strings: bytes, keys, and what follows. No condition. -/
import Derived.Test.YtnpdbnkgipkgaaaGreatHVGA
import Derived.Lib.Bytealg
import Derived.Test.YtnpdbnkgipkgaaaGreatHVGC
import Derived.Test.YtnpdbnkgipkgaaaGreatHVGB
/- Strings: bytes, keys. No condition. -/
namespace Go.Proofs.YtnpdbnkgipkgaaaGreat
open Go Go.RowKit
set_option maxRecDepth 100000
set_option linter.all false
set_option maxHeartbeats 1000000
variable {H : Hp} {K : AV → Hp → Prop}
theorem data_inj {a b : ByteArray} (h : a.data.toList = b.data.toList) : a = b := by
  obtain ⟨⟨x⟩⟩ := a
  obtain ⟨⟨y⟩⟩ := b
  simp at h
  rw [h]
@[go_sem] theorem str_eq (a b : ByteArray) : (a.toList == b.toList) = decide (a = b) := by
  rw [ByteArray.toList_eq, ByteArray.toList_eq, Bool.eq_iff_iff, beq_iff_eq, decide_eq_true_eq]
  exact ⟨data_inj, fun h => by rw [h]⟩
def byteAt (s : ByteArray) (i : Nat) : Int := ((s.data.toList.getD i 0).toNat : Int)
theorem byteAt_bd (s : ByteArray) (i : Nat) : 0 ≤ byteAt s i ∧ byteAt s i ≤ 255 := by
  unfold byteAt
  have := UInt8.toNat_lt (s.data.toList.getD i 0)
  omega
@[go_sem] theorem byteAt_fold (s : ByteArray) (i : Nat) : ((s.data.toList.getD i 0).toNat : Int) = byteAt s i := (rfl)
abbrev keyN (c : Int) : Prop := (97 ≤ c ∧ c ≤ 122) ∨ (48 ≤ c ∧ c ≤ 57) ∨ c = 45 ∨ c = 95
def isKey (s : ByteArray) : Prop := 1 ≤ s.size ∧ s.size ≤ 40 ∧ (97 ≤ byteAt s 0 ∧ byteAt s 0 ≤ 122) ∧ ∀ i, i < s.size → keyN (byteAt s i)
instance (s : ByteArray) : Decidable (isKey s) := by unfold isKey; infer_instance
theorem size_zero {s : ByteArray} : s = ⟨#[]⟩ ↔ s.size = 0 := by
  constructor
  · rintro rfl; rfl
  · intro h
    apply data_inj
    have h2 : s.data.toList.length = 0 := h
    rw [List.length_eq_zero_iff.1 h2]
theorem key_a (s : ByteArray) (hs : s.size ≤ 1099511627776) (hk : K (.c (.bool (decide (isKey s)))) H) : ACalls Tryz.prog 78 [(.c (.str s))] H K := by
  have hb := byteAt_bd s 0
  have bad : ¬(1 ≤ s.size ∧ s.size ≤ 40 ∧ (97 ≤ byteAt s 0 ∧ byteAt s 0 ≤ 122)) → decide (isKey s) = false := fun h => by
    rw [decide_eq_false_iff_not]
    exact fun h2 => h ⟨h2.1, h2.2.1, h2.2.2.1⟩
  by_cases h0 : s = ⟨#[]⟩
  · have h1 := size_zero.1 h0
    refine acalls Tryz.func78 rfl (by kernel_rfl) (by simp (disch := first | omega | (simp only [go_sem]; first | done | omega)) only [go_sem]) (fun hH => ?_)
    simp (disch := first | omega | (simp only [go_sem]; first | done | omega)) only [go_sem, h0]
    rw [bad (by omega)] at hk
    exact Ret.same (Nat.le_refl _) hk
  have h1 : 0 < s.size := by have := mt size_zero.2 h0; omega
  by_cases h2 : 40 < s.size
  · refine acalls Tryz.func78 rfl (by kernel_rfl) (by simp (disch := first | omega | (simp only [go_sem]; first | done | omega)) only [go_sem]) (fun hH => ?_)
    simp (disch := first | omega | (simp only [go_sem]; first | done | omega)) only [go_sem, h0, h2]
    rw [bad (by omega)] at hk
    exact Ret.same (Nat.le_refl _) hk
  by_cases h3 : byteAt s 0 < 97
  · refine acalls Tryz.func78 rfl (by kernel_rfl) (by simp (disch := first | omega | (simp only [go_sem]; first | done | omega)) only [go_sem]) (fun hH => ?_)
    simp (disch := first | omega | (simp only [go_sem]; first | done | omega)) only [go_sem, h0, h2, h3]
    rw [bad (by omega)] at hk
    exact Ret.same (Nat.le_refl _) hk
  by_cases h4 : 122 < byteAt s 0
  · refine acalls Tryz.func78 rfl (by kernel_rfl) (by simp (disch := first | omega | (simp only [go_sem]; first | done | omega)) only [go_sem]) (fun hH => ?_)
    simp (disch := first | omega | (simp only [go_sem]; first | done | omega)) only [go_sem, h0, h2, h3, h4]
    rw [bad (by omega)] at hk
    exact Ret.same (Nat.le_refl _) hk
  refine acalls Tryz.func78 rfl (by kernel_rfl) (by simp (disch := first | omega | (simp only [go_sem]; first | done | omega)) only [go_sem]) (fun hH => ?_)
  simp (disch := first | omega | (simp only [go_sem]; first | done | omega)) only [go_sem, h0, h2, h3, h4]
  refine AWp.loop (H.length) [0, 23] [24] (fun (k : Nat) => k ≤ s.size ∧ ∀ i, i < k → keyN (byteAt s i)) (fun (k : Nat) => [(24, (.c (.int .i64 k)))]) (fun (k : Nat) => H) (fun (k : Nat) => s.size - k) (by kernel_rfl) (fun _ => rfl) (by kernel_rfl) (by first | (simp; done) | omega) (by first | (simp; done) | (simp; omega) | omega) (by (try simp only [List.forall_mem_cons, List.not_mem_nil, false_implies, implies_true, and_true]); (try simp (disch := first | omega | (simp only [go_sem]; first | done | omega)) only [go_sem]); all_goals first | trivial | (simp [AV.ok, AV.ok1, AC.ok]; done) | (simp [AV.ok, AV.ok1, AC.ok]; omega) | (simp [AV.ok, AV.ok1, AC.ok]; assumption) | ((repeat' apply And.intro) <;> first | trivial | (simp [AV.ok, AV.ok1, AC.ok]; done) | (simp [AV.ok, AV.ok1, AC.ok]; omega) | (simp [AV.ok, AV.ok1, AC.ok]; assumption) | (refine grV_ok ?_ _; first | (simp; done) | (simp; omega) | omega))) ?_ (fun k hk1 _ _ => ?_)
  · exact Next.mk 0 ⟨by omega, fun i hi => by omega⟩ (by (try simp (disch := first | omega | (simp only [go_sem]; first | done | omega)) only [go_sem]); (first | refine WkL.eq ?_ ?_ | refine WkL.rest (by assumption) ?_ ?_ ?_ | refine WkL.keepL (by assumption) rfl ?_ ?_ ?_ ?_) <;> first | rfl | (simp; done) | (simp; omega) | (simp only [List.cons.injEq, AV.c.injEq, AC.int.injEq, AC.bool.injEq, AC.str.injEq, and_true, true_and, Int.natCast_add, Int.natCast_one, Int.cast_ofNat_Int]; omega) | (simp [AV.ok, AV.ok1, AC.ok]; done) | (simp [AV.ok, AV.ok1, AC.ok]; omega) | (simp only [List.forall_mem_cons, List.not_mem_nil, false_implies, implies_true, and_true]; (repeat' apply And.intro) <;> first | exact okN_map (fun x => by simp [go_sem, AC.pure]) | exact okN_grO (fun x => by simp [go_sem, AC.pure]) | (simp [AObj.okN, AC.ok]; done) | (simp [AObj.okN, AC.ok]; omega)) | (simp [*]; done) | grind)
  obtain ⟨hk1, hk2⟩ := hk1
  by_cases hlt : k < s.size
  · have hc := byteAt_bd s k
    by_cases hkey : keyN (byteAt s k)
    · have hside : (k + 1 ≤ s.size ∧ ∀ i, i < k + 1 → keyN (byteAt s i)) ∧ s.size - (k + 1) < s.size - k := by
        refine ⟨⟨by omega, fun i hi => ?_⟩, by omega⟩
        rcases Nat.lt_or_ge i k with h | h
        · exact hk2 i h
        · obtain rfl : i = k := by omega
          exact hkey
      simp (disch := first | omega | (simp only [go_sem]; first | done | omega)) only [go_sem, hlt]
      repeat' (first | ((first | refine acond_d ?_ ?_ | refine acond_b ?_ ?_ | refine ag_d ?_ ?_ | refine ag_n ?_ ?_ | refine ag_bt ?_ ?_ | refine ag_bf ?_ ?_) <;> intro c <;> try simp (disch := first | omega | (simp only [go_sem]; first | done | omega)) only [go_sem, c, hlt]) | ((first | refine w_draw (by kernel_rfl) (by decide +kernel) ?_) <;> try simp (disch := first | omega | (simp only [go_sem]; first | done | omega)) only [go_sem, hlt]))
      all_goals first
        | exact Next.mk (k + 1) hside (by (try simp (disch := first | omega | (simp only [go_sem]; first | done | omega)) only [go_sem]); (first | refine WkL.eq ?_ ?_ | refine WkL.rest (by assumption) ?_ ?_ ?_ | refine WkL.keepL (by assumption) rfl ?_ ?_ ?_ ?_) <;> first | rfl | (simp; done) | (simp; omega) | (simp only [List.cons.injEq, AV.c.injEq, AC.int.injEq, AC.bool.injEq, AC.str.injEq, and_true, true_and, Int.natCast_add, Int.natCast_one, Int.cast_ofNat_Int]; omega) | (simp [AV.ok, AV.ok1, AC.ok]; done) | (simp [AV.ok, AV.ok1, AC.ok]; omega) | (simp only [List.forall_mem_cons, List.not_mem_nil, false_implies, implies_true, and_true]; (repeat' apply And.intro) <;> first | exact okN_map (fun x => by simp [go_sem, AC.pure]) | exact okN_grO (fun x => by simp [go_sem, AC.pure]) | (simp [AObj.okN, AC.ok]; done) | (simp [AObj.okN, AC.ok]; omega)) | (simp [*]; done) | grind)
        | (exfalso; omega)
    · have hf : decide (isKey s) = false := by
        rw [decide_eq_false_iff_not]
        exact fun h => hkey (h.2.2.2 k hlt)
      rw [hf] at hk
      simp (disch := first | omega | (simp only [go_sem]; first | done | omega)) only [go_sem, hlt]
      repeat' (first | ((first | refine acond_d ?_ ?_ | refine acond_b ?_ ?_ | refine ag_d ?_ ?_ | refine ag_n ?_ ?_ | refine ag_bt ?_ ?_ | refine ag_bf ?_ ?_) <;> intro c <;> try simp (disch := first | omega | (simp only [go_sem]; first | done | omega)) only [go_sem, c, hlt]) | ((first | refine w_draw (by kernel_rfl) (by decide +kernel) ?_) <;> try simp (disch := first | omega | (simp only [go_sem]; first | done | omega)) only [go_sem, hlt]))
      all_goals first
        | exact Ret.same (Nat.le_refl _) hk
        | (exfalso; omega)
  · simp (disch := first | omega | (simp only [go_sem]; first | done | omega)) only [go_sem, hlt]
    rw [show decide (isKey s) = true from decide_eq_true ⟨by omega, by omega, by omega, fun i hi => hk2 i (by omega)⟩] at hk
    exact Ret.same (Nat.le_refl _) hk
theorem indexByteX (f : FuncId) (hf : externs Tryz.prog f Extern.BytealgIndexByte.indexByte) (s : ByteArray) (c : Int) (hk : K (.c (.int .i64 (Lib.indexByte s.data.toList c.toNat.toUInt8))) H) : AExt Tryz.prog f [(.c (.str s)), .c (.int .u8 c)] H K := by
  refine ⟨_, hf, fun B w0 ι w vs hs hr ho => ?_⟩
  obtain ⟨l⟩ := vs
  match l, hr with
  | [u, v], hr =>
    have h1 : u = .string s := hr.1
    have h2 : v = .int .u8 c := hr.2.1
    subst h1; subst h2
    refine ⟨_, w, Lib.run_indexByteString s c w, ι, _, (.c (.int .i64 (Lib.indexByte s.data.toList c.toNat.toUInt8))), H, rfl, Agree.refl _ _, Nat.le_refl _, hs, ?_, ?_, hk⟩
    · rfl
    · trivial
theorem ext_indexByte : externs Tryz.prog 206 Extern.BytealgIndexByte.indexByte := ⟨_, rfl, by kernel_rfl, by kernel_rfl, by kernel_rfl, by kernel_rfl⟩
theorem indexByte_a (s : ByteArray) (c : Int) (hk : K (.c (.int .i64 (Lib.indexByte s.data.toList c.toNat.toUInt8))) H) : ACalls Tryz.prog 141 [(.c (.str s)), .c (.int .u8 c)] H K := by
  have key : ∀ (K : AV → Hp → Prop), K (.c (.int .i64 (Lib.indexByte s.data.toList c.toNat.toUInt8))) H → ACalls Tryz.prog 180 [(.c (.str s)), .c (.int .u8 c)] H K := by
    intro K hk
    refine acalls Tryz.func180 rfl (by kernel_rfl) (by simp (disch := first | omega | (simp only [go_sem]; first | done | omega)) only [go_sem]) (fun hH => ?_)
    simp (disch := first | omega | (simp only [go_sem]; first | done | omega)) only [go_sem]
    refine indexByteX _ ext_indexByte s c ?_
    simp (disch := first | omega | (simp only [go_sem]; first | done | omega)) only [go_sem]
    exact Ret.same (Nat.le_refl _) hk
  refine acalls Tryz.func141 rfl (by kernel_rfl) (by simp (disch := first | omega | (simp only [go_sem]; first | done | omega)) only [go_sem]) (fun hH => ?_)
  simp (disch := first | omega | (simp only [go_sem]; first | done | omega)) only [go_sem]
  refine key _ ?_
  simp (disch := first | omega | (simp only [go_sem]; first | done | omega)) only [go_sem]
  exact Ret.same (Nat.le_refl _) hk
/-- is every byte one of some -/
def onlyB (s t : ByteArray) : Prop := ∀ i, i < s.size → 0 ≤ Lib.indexByte t.data.toList (byteAt s i).toNat.toUInt8
instance (s t : ByteArray) : Decidable (onlyB s t) := by unfold onlyB; infer_instance
theorem only_a (s t : ByteArray) (hs : s.size ≤ 1099511627776) (hk : K (.c (.bool (decide (onlyB s t)))) H) : ACalls Tryz.prog 115 [(.c (.str s)), (.c (.str t))] H K := by
  refine acalls Tryz.func115 rfl (by kernel_rfl) (by simp (disch := first | omega | (simp only [go_sem]; first | done | omega)) only [go_sem]) (fun hH => ?_)
  simp (disch := first | omega | (simp only [go_sem]; first | done | omega)) only [go_sem]
  refine AWp.loop (H.length) [0, 1, 7] [8] (fun (k : Nat) => k ≤ s.size ∧ ∀ i, i < k → 0 ≤ Lib.indexByte t.data.toList (byteAt s i).toNat.toUInt8) (fun (k : Nat) => [(8, (.c (.int .i64 k)))]) (fun (k : Nat) => H) (fun (k : Nat) => s.size - k) (by kernel_rfl) (fun _ => rfl) (by kernel_rfl) (by first | (simp; done) | omega) (by first | (simp; done) | (simp; omega) | omega) (by (try simp only [List.forall_mem_cons, List.not_mem_nil, false_implies, implies_true, and_true]); (try simp (disch := first | omega | (simp only [go_sem]; first | done | omega)) only [go_sem]); all_goals first | trivial | (simp [AV.ok, AV.ok1, AC.ok]; done) | (simp [AV.ok, AV.ok1, AC.ok]; omega) | (simp [AV.ok, AV.ok1, AC.ok]; assumption) | ((repeat' apply And.intro) <;> first | trivial | (simp [AV.ok, AV.ok1, AC.ok]; done) | (simp [AV.ok, AV.ok1, AC.ok]; omega) | (simp [AV.ok, AV.ok1, AC.ok]; assumption) | (refine grV_ok ?_ _; first | (simp; done) | (simp; omega) | omega))) ?_ (fun k hk1 _ _ => ?_)
  · exact Next.mk 0 ⟨by omega, fun i hi => by omega⟩ (by (try simp (disch := first | omega | (simp only [go_sem]; first | done | omega)) only [go_sem]); (first | refine WkL.eq ?_ ?_ | refine WkL.rest (by assumption) ?_ ?_ ?_ | refine WkL.keepL (by assumption) rfl ?_ ?_ ?_ ?_) <;> first | rfl | (simp; done) | (simp; omega) | (simp only [List.cons.injEq, AV.c.injEq, AC.int.injEq, AC.bool.injEq, AC.str.injEq, and_true, true_and, Int.natCast_add, Int.natCast_one, Int.cast_ofNat_Int]; omega) | (simp [AV.ok, AV.ok1, AC.ok]; done) | (simp [AV.ok, AV.ok1, AC.ok]; omega) | (simp only [List.forall_mem_cons, List.not_mem_nil, false_implies, implies_true, and_true]; (repeat' apply And.intro) <;> first | exact okN_map (fun x => by simp [go_sem, AC.pure]) | exact okN_grO (fun x => by simp [go_sem, AC.pure]) | (simp [AObj.okN, AC.ok]; done) | (simp [AObj.okN, AC.ok]; omega)) | (simp [*]; done) | grind)
  obtain ⟨hk1, hk2⟩ := hk1
  by_cases hlt : k < s.size
  · simp (disch := first | omega | (simp only [go_sem]; first | done | omega)) only [go_sem, hlt]
    refine indexByte_a t (byteAt s k) ?_
    simp (disch := first | omega | (simp only [go_sem]; first | done | omega)) only [go_sem]
    refine acond_d (fun c => ?_) (fun c => ?_)
    · have hf : decide (onlyB s t) = false := by
        rw [decide_eq_false_iff_not]
        exact fun h => by have := h k hlt; omega
      rw [hf] at hk
      simp (disch := first | omega | (simp only [go_sem]; first | done | omega)) only [go_sem]
      exact Ret.same (Nat.le_refl _) hk
    · simp (disch := first | omega | (simp only [go_sem]; first | done | omega)) only [go_sem]
      refine Next.mk (k + 1) ⟨⟨by omega, fun i hi => ?_⟩, by omega⟩ (by (try simp (disch := first | omega | (simp only [go_sem]; first | done | omega)) only [go_sem]); (first | refine WkL.eq ?_ ?_ | refine WkL.rest (by assumption) ?_ ?_ ?_ | refine WkL.keepL (by assumption) rfl ?_ ?_ ?_ ?_) <;> first | rfl | (simp; done) | (simp; omega) | (simp only [List.cons.injEq, AV.c.injEq, AC.int.injEq, AC.bool.injEq, AC.str.injEq, and_true, true_and, Int.natCast_add, Int.natCast_one, Int.cast_ofNat_Int]; omega) | (simp [AV.ok, AV.ok1, AC.ok]; done) | (simp [AV.ok, AV.ok1, AC.ok]; omega) | (simp only [List.forall_mem_cons, List.not_mem_nil, false_implies, implies_true, and_true]; (repeat' apply And.intro) <;> first | exact okN_map (fun x => by simp [go_sem, AC.pure]) | exact okN_grO (fun x => by simp [go_sem, AC.pure]) | (simp [AObj.okN, AC.ok]; done) | (simp [AObj.okN, AC.ok]; omega)) | (simp [*]; done) | grind)
      rcases Nat.lt_or_ge i k with h | h
      · exact hk2 i h
      · obtain rfl : i = k := by omega
        omega
  · simp (disch := first | omega | (simp only [go_sem]; first | done | omega)) only [go_sem, hlt]
    rw [show decide (onlyB s t) = true from decide_eq_true (fun i hi => hk2 i (by omega))] at hk
    exact Ret.same (Nat.le_refl _) hk
theorem only_smalls : ∀ n : Fin 256, (0 ≤ Lib.indexByte [97, 98, 99, 100, 101, 102, 103, 104, 105, 106, 107, 108, 109, 110, 111, 112, 113, 114, 115, 116, 117, 118, 119, 120, 121, 122] n.val.toUInt8 ↔ 97 ≤ n.val ∧ n.val ≤ 122) := by decide +kernel
theorem only_keys : ∀ n : Fin 256, (0 ≤ Lib.indexByte [97, 98, 99, 100, 101, 102, 103, 104, 105, 106, 107, 108, 109, 110, 111, 112, 113, 114, 115, 116, 117, 118, 119, 120, 121, 122, 48, 49, 50, 51, 52, 53, 54, 55, 56, 57, 45, 95] n.val.toUInt8 ↔ keyN n.val) := by decide +kernel
theorem byteAt_take (s : ByteArray) (i : Nat) (h : i < 1) (hs : 1 ≤ s.size) : byteAt (s.extract 0 1) i = byteAt s i := by
  obtain rfl : i = 0 := by omega
  unfold byteAt
  congr 2
  obtain ⟨⟨l⟩⟩ := s
  cases l with
  | nil => simp [ByteArray.size] at hs
  | cons x xs => simp [ByteArray.extract, ByteArray.copySlice]
theorem keyR_a (s : ByteArray) (hs : s.size ≤ 1099511627776) (hk : K (.c (.bool (decide (isKey s)))) H) : ACalls Tryz.prog 65 [(.c (.str s))] H K := by
  by_cases h1 : 1 ≤ s.size ∧ s.size ≤ 40
  · refine acalls Tryz.func65 rfl (by kernel_rfl) (by simp (disch := first | omega | (simp only [go_sem]; first | done | omega)) only [go_sem]) (fun hH => ?_)
    simp (disch := first | omega | (simp only [go_sem]; first | done | omega)) only [go_sem]
    refine in_a _ _ _ _ _ ?_
    have hsz : (s.extract 0 1).size = 1 := by simp [ByteArray.size_extract]; omega
    have b0 := byteAt_bd s 0
    have e1 : onlyB (s.extract 0 1) ⟨#[97, 98, 99, 100, 101, 102, 103, 104, 105, 106, 107, 108, 109, 110, 111, 112, 113, 114, 115, 116, 117, 118, 119, 120, 121, 122]⟩ ↔ 97 ≤ byteAt s 0 ∧ byteAt s 0 ≤ 122 := by
      have h3 := only_smalls ⟨(byteAt s 0).toNat, by omega⟩
      unfold onlyB
      rw [hsz]
      constructor
      · intro h
        have h4 := h 0 (by omega)
        rw [byteAt_take s 0 (by omega) h1.1] at h4
        have := h3.1 h4
        dsimp only at this
        omega
      · intro h i hi
        rw [byteAt_take s i hi h1.1]
        obtain rfl : i = 0 := by omega
        exact h3.2 (by dsimp only; omega)
    have e2 : onlyB s ⟨#[97, 98, 99, 100, 101, 102, 103, 104, 105, 106, 107, 108, 109, 110, 111, 112, 113, 114, 115, 116, 117, 118, 119, 120, 121, 122, 48, 49, 50, 51, 52, 53, 54, 55, 56, 57, 45, 95]⟩ ↔ ∀ i, i < s.size → keyN (byteAt s i) := by
      have h3 : ∀ i, (0 ≤ Lib.indexByte [97, 98, 99, 100, 101, 102, 103, 104, 105, 106, 107, 108, 109, 110, 111, 112, 113, 114, 115, 116, 117, 118, 119, 120, 121, 122, 48, 49, 50, 51, 52, 53, 54, 55, 56, 57, 45, 95] (byteAt s i).toNat.toUInt8 ↔ keyN (byteAt s i)) := fun i => by
        have b := byteAt_bd s i
        have := only_keys ⟨(byteAt s i).toNat, by omega⟩
        dsimp only at this
        rw [this]
        simp only [keyN]
        omega
      unfold onlyB
      exact ⟨fun h i hi => (h3 i).1 (h i hi), fun h i hi => (h3 i).2 (h i hi)⟩
    simp (disch := first | omega | (simp only [go_sem]; first | done | omega)) only [go_sem, h1]
    refine only_a (s.extract 0 1) _ (by omega) ?_
    by_cases h2 : 97 ≤ byteAt s 0 ∧ byteAt s 0 ≤ 122
    · rw [decide_eq_true (e1.2 h2)]
      simp (disch := first | omega | (simp only [go_sem]; first | done | omega)) only [go_sem, h1]
      refine only_a s _ hs ?_
      have e3 : decide (onlyB s ⟨#[97, 98, 99, 100, 101, 102, 103, 104, 105, 106, 107, 108, 109, 110, 111, 112, 113, 114, 115, 116, 117, 118, 119, 120, 121, 122, 48, 49, 50, 51, 52, 53, 54, 55, 56, 57, 45, 95]⟩) = decide (isKey s) := by
        rw [decide_eq_decide, e2]
        exact ⟨fun h => ⟨h1.1, h1.2, h2, h⟩, fun h => h.2.2.2⟩
      rw [e3]
      simp (disch := first | omega | (simp only [go_sem]; first | done | omega)) only [go_sem, h1]
      exact Ret.same (Nat.le_refl _) hk
    · rw [decide_eq_false (fun h => h2 (e1.1 h))]
      have hf : decide (isKey s) = false := by
        rw [decide_eq_false_iff_not]
        exact fun h => h2 h.2.2.1
      rw [hf] at hk
      simp (disch := first | omega | (simp only [go_sem]; first | done | omega)) only [go_sem, h1]
      exact Ret.same (Nat.le_refl _) hk
  · have hf : decide (isKey s) = false := by
      rw [decide_eq_false_iff_not]
      exact fun h => h1 ⟨h.1, h.2.1⟩
    rw [hf] at hk
    refine acalls Tryz.func65 rfl (by kernel_rfl) (by simp (disch := first | omega | (simp only [go_sem]; first | done | omega)) only [go_sem]) (fun hH => ?_)
    simp (disch := first | omega | (simp only [go_sem]; first | done | omega)) only [go_sem]
    refine in_a _ _ _ _ _ ?_
    have h2 : decide (1 ≤ (s.size : Int) ∧ (s.size : Int) ≤ 40) = false := by rw [decide_eq_false_iff_not]; omega
    simp (disch := first | omega | (simp only [go_sem]; first | done | omega)) only [go_sem, h2]
    exact Ret.same (Nat.le_refl _) hk
end Go.Proofs.YtnpdbnkgipkgaaaGreat
/- Holds: what is wrong with them, in the program and in the document's answer. Condition: keys are short. -/
namespace Go.Proofs.YtnpdbnkgipkgaaaGreat
open Go Go.RowKit
set_option maxRecDepth 100000
set_option linter.all false
set_option maxHeartbeats 1000000
variable {H : Hp} {K : AV → Hp → Prop}
structure Hold where
  key : ByteArray
  tag : ByteArray
  t0 : Int
  t1 : Int
  made : Int
  ends : Int
deriving DecidableEq
def encH (x : Hold) : List AC := [.str x.key, .str x.tag, .int .i64 x.t0, .int .i64 x.t1, .int .i64 x.made, .int .i64 x.ends]
attribute [go_sem, simp] encH
def leS (a b : ByteArray) : Bool := Op.bytesLess a.toList b.toList || decide (a = b)
@[go_sem] theorem leS_fold (a b : ByteArray) : (Op.bytesLess a.toList b.toList || decide (a = b)) = leS a b := (rfl)
def noS : ByteArray := ⟨#[]⟩
@[go_sem] theorem noS_fold : (⟨#[]⟩ : ByteArray) = noS := (rfl)
def Hold.short (x : Hold) : Prop := x.key.size ≤ 1000 ∧ x.tag.size ≤ 1000
def namesErr (x : Hold) : Int := if ¬isKey x.key ∨ (x.tag ≠ noS ∧ ¬isKey x.tag) then 5 else 0
def hdErr (i : Nat) (p x : Hold) : Int :=
  if namesErr x ≠ 0 then namesErr x
  else if 0 < i ∧ leS x.key p.key = true then 7
  else if x.t0 < 0 ∨ x.t1 ≤ x.t0 ∨ 345686400000 < x.t1 ∨ x.made < 0 ∨ x.ends ≤ x.made ∨ 345686400000 < x.ends then 1 else 0
def hold0 : Hold := ⟨noS, noS, 0, 0, 0, 0⟩
def hdF (l : List Hold) : Int := if 200 < l.length then 2 else errGo hdErr 0 hold0 l
theorem leS_no {s : ByteArray} (h : isKey s) : leS s noS = false := by
  have h1 : s.size ≠ 0 := by have := h.1; omega
  have h2 : s ≠ noS := fun h' => h1 (size_zero.1 h')
  unfold leS
  rw [decide_eq_false h2, Bool.or_false, ByteArray.toList_eq, ByteArray.toList_eq]
  show Op.bytesLess s.data.toList [] = false
  cases s.data.toList <;> rfl
end Go.Proofs.YtnpdbnkgipkgaaaGreat
/- What holds hold. Condition: keys are short. -/
namespace Go.Proofs.YtnpdbnkgipkgaaaGreat
open Go Go.RowKit
set_option maxRecDepth 100000
set_option linter.all false
set_option maxHeartbeats 1000000
variable {H : Hp} {K : AV → Hp → Prop}
def tagE (t : ByteArray) : Int := if isKey t then 0 else 5
def momE (m a : Int) : Int := if 0 ≤ m ∧ m ≤ 345686399999 ∧ 0 ≤ a ∧ a ≤ 345686399999 ∧ m ≤ a then 0 else 1
theorem nameFault_a (t : ByteArray) (hs : t.size ≤ 1000) (hk : K (.c (.int .i64 (tagE t))) H) : ACalls Tryz.prog 41 [(.c (.str t))] H K := by
  refine acalls Tryz.func41 rfl (by kernel_rfl) (by simp (disch := first | omega | (simp only [go_sem]; first | done | omega)) only [go_sem]) (fun hH => ?_)
  simp (disch := first | omega | (simp only [go_sem]; first | done | omega)) only [go_sem]
  repeat' (first | ((first | refine acond_d ?_ ?_ | refine acond_b ?_ ?_ | refine ag_d ?_ ?_ | refine ag_n ?_ ?_ | refine ag_bt ?_ ?_ | refine ag_bf ?_ ?_) <;> intro c <;> try simp (disch := first | omega | (simp only [go_sem]; first | done | omega)) only [go_sem, c]) | ((first | refine w_draw (by kernel_rfl) (by decide +kernel) ?_ | refine keyR_a t (by omega) ?_ | refine when_a _ _ _ _ ?_) <;> try simp (disch := first | omega | (simp only [go_sem]; first | done | omega)) only [go_sem]))
  all_goals (first | refine Ret.sameE (Nat.le_refl _) (by assumption) ?_ | refine Ret.dropE (by assumption) (Nat.le_refl _) (by assumption) (by simp [AV.ok, AV.ok1, AC.ok]) ?_) <;> grind [tagE]
theorem momentFaultR_a (m : Int) (hk : K (.c (.int .i64 (if 0 ≤ m ∧ m ≤ 345686399999 then 0 else 1))) H) : ACalls Tryz.prog 38 [(.c (.int .i64 m))] H K := by
  refine acalls Tryz.func38 rfl (by kernel_rfl) (by simp (disch := first | omega | (simp only [go_sem]; first | done | omega)) only [go_sem]) (fun hH => ?_)
  simp (disch := first | omega | (simp only [go_sem]; first | done | omega)) only [go_sem]
  repeat' (first | ((first | refine acond_d ?_ ?_ | refine acond_b ?_ ?_ | refine ag_d ?_ ?_ | refine ag_n ?_ ?_ | refine ag_bt ?_ ?_ | refine ag_bf ?_ ?_) <;> intro c <;> try simp (disch := first | omega | (simp only [go_sem]; first | done | omega)) only [go_sem, c]) | ((first | refine w_draw (by kernel_rfl) (by decide +kernel) ?_ | refine momentR_a _ _ _ ?_) <;> try simp (disch := first | omega | (simp only [go_sem]; first | done | omega)) only [go_sem]))
  all_goals (first | refine Ret.sameE (Nat.le_refl _) (by assumption) ?_ | refine Ret.dropE (by assumption) (Nat.le_refl _) (by assumption) (by simp [AV.ok, AV.ok1, AC.ok]) ?_) <;> (first | rfl | (simp only [AV.c.injEq, AC.bool.injEq]; rw [Bool.eq_iff_iff]; simp only [Bool.not_eq_true', decide_eq_true_eq, decide_eq_false_iff_not, Bool.and_eq_true, Bool.or_eq_true]; omega) | grind | (simp [*]; done) | (simp [*]; omega))
def ofF (h : List Hold) (tag : ByteArray) : List Hold := h.filter (fun x => decide (x.tag = noS ∨ x.tag = tag))
/-- a hold that is in force holds the data of a time -/
def inForce (x : Hold) (w0 w1 t : Int) : Bool := decide (x.t0 < w1 ∧ w0 < x.t1 ∧ x.made ≤ t ∧ t < x.ends)
theorem first3_lit (a b c : Int) {i ty n : Nat} {els : List (List AC)} {own : Bool} (hi : H[i]? = some (.row ty 1 els own)) (he : els = [[.int .i64 a], [.int .i64 b], [.int .i64 c]]) (hn : n = 3) (hk : K (.c (.int .i64 (firstE [a, b, c]))) (H.set i .dead)) : ACalls Tryz.prog 76 [.c (.sl (some (i, 0)) n)] H K := by
  subst he hn
  exact ACalls.lit hi (by simp [pureL, AC.pure]) (args' := [.c (.lst 1 ([a, b, c].map encI))]) (by simp [AV.frz1, AC.frz, encI]) (first_a [a, b, c] (by simp) hk)
theorem ofF_len (h : List Hold) (tag : ByteArray) : (ofF h tag).length ≤ h.length := List.length_filter_le _ _
end Go.Proofs.YtnpdbnkgipkgaaaGreat
/- Insertion sort: no program in sight. No condition. -/
namespace Go.Proofs.YtnpdbnkgipkgaaaGreat
open Go Go.RowKit
set_option maxRecDepth 100000
set_option linter.all false
section
variable {α : Type} (lt : α → α → Bool)
def sinkG : Nat → List α → List α
  | 0, l => l
  | j + 1, l => match l[j + 1]?, l[j]? with
    | some x, some y => if lt x y = true then sinkG j ((l.set (j + 1) y).set j x) else l
    | _, _ => l
def isortGoG : Nat → Nat → List α → List α
  | 0, _, l => l
  | c + 1, i, l => isortGoG c (i + 1) (sinkG lt i l)
def isortG (l : List α) : List α := isortGoG lt (l.length - 1) 1 l
theorem sinkG_step (j : Nat) (l : List α) (h : j + 1 < l.length) : sinkG lt (j + 1) l = if lt l[j + 1] l[j] = true then sinkG lt j ((l.set (j + 1) l[j]).set j l[j + 1]) else l := by
  rw [sinkG, List.getElem?_eq_getElem h, List.getElem?_eq_getElem (by omega)]
theorem sinkG_len : ∀ (j : Nat) (l : List α), (sinkG lt j l).length = l.length
  | 0, _ => rfl
  | j + 1, l => by
    unfold sinkG
    split
    · split
      · rw [sinkG_len j]; simp
      · rfl
    · rfl
theorem isortGoG_len : ∀ (c i : Nat) (l : List α), (isortGoG lt c i l).length = l.length
  | 0, _, _ => rfl
  | c + 1, i, l => by rw [isortGoG, isortGoG_len c, sinkG_len]
theorem isortG_len (l : List α) : (isortG lt l).length = l.length := isortGoG_len lt _ _ _
/-- into what is sorted, from its end -/
def insR : List α → α → List α
  | [], x => [x]
  | y :: p, x => if lt x y = true then y :: insR p x else x :: y :: p
theorem insR_len (p : List α) (x : α) : (insR lt p x).length = p.length + 1 := by
  induction p with
  | nil => rfl
  | cons y p ih => unfold insR; split <;> simp [ih]
theorem sinkG_eq : ∀ (p r : List α) (x : α), sinkG lt p.length (p.reverse ++ x :: r) = (insR lt p x).reverse ++ r
  | [], r, x => rfl
  | y :: p, r, x => by
    have e : (y :: p).reverse ++ x :: r = p.reverse ++ y :: x :: r := by simp
    have g1 : (p.reverse ++ y :: x :: r)[p.length + 1]? = some x := by rw [List.getElem?_append_right (by simp)]; simp
    have g2 : (p.reverse ++ y :: x :: r)[p.length]? = some y := by rw [List.getElem?_append_right (by simp)]; simp
    have g3 : ((p.reverse ++ y :: x :: r).set (p.length + 1) y).set p.length x = p.reverse ++ x :: y :: r := by
      rw [List.set_append_right _ _ (by simp), List.set_append_right _ _ (by simp)]; simp
    rw [e, List.length_cons, sinkG, g1, g2]
    dsimp only
    rw [g3, insR]
    split
    · rw [sinkG_eq p (y :: r) x]; simp
    · simp
theorem isortGoG_eq : ∀ (r q : List α), isortGoG lt r.length q.length (q.reverse ++ r) = (r.foldl (insR lt) q).reverse
  | [], q => by simp [isortGoG]
  | x :: r, q => by
    rw [List.length_cons, isortGoG, sinkG_eq, List.foldl_cons]
    have := isortGoG_eq r (insR lt q x)
    rwa [insR_len] at this
theorem isortG_eq (l : List α) : isortG lt l = (l.foldl (insR lt) []).reverse := by
  cases l with
  | nil => rfl
  | cons a t => exact isortGoG_eq lt t [a]
theorem insR_mem (p : List α) (x z : α) : z ∈ insR lt p x ↔ z = x ∨ z ∈ p := by
  induction p with
  | nil => simp [insR]
  | cons y p ih =>
    unfold insR
    split
    · simp only [List.mem_cons, ih]; constructor <;> (intro h; rcases h with h | h | h <;> simp [h])
    · simp
theorem fold_ins_mem (l q : List α) (z : α) : z ∈ l.foldl (insR lt) q ↔ z ∈ l ∨ z ∈ q := by
  induction l generalizing q with
  | nil => simp
  | cons x l ih =>
    rw [List.foldl_cons, ih, insR_mem, List.mem_cons]
    exact ⟨by rintro (h | h | h) <;> simp [h], by rintro ((h | h) | h) <;> simp [h]⟩
theorem isortG_mem (l : List α) (z : α) : z ∈ isortG lt l ↔ z ∈ l := by
  rw [isortG_eq, List.mem_reverse, fold_ins_mem]; simp
/-- sorted, if the order is one by numbers -/
theorem insR_sorted (f : α → Int) (hf : ∀ x y, lt x y = decide (f x < f y)) (p : List α) (x : α) (h : p.Pairwise (fun a b => f b ≤ f a)) : (insR lt p x).Pairwise (fun a b => f b ≤ f a) := by
  induction p with
  | nil => simp [insR]
  | cons y p ih =>
    rw [List.pairwise_cons] at h
    unfold insR
    split
    · rename_i c
      rw [hf, decide_eq_true_eq] at c
      rw [List.pairwise_cons]
      refine ⟨fun z hz => ?_, ih h.2⟩
      rcases (insR_mem lt p x z).1 hz with rfl | hz
      · omega
      · exact h.1 z hz
    · rename_i c
      rw [hf, decide_eq_true_eq] at c
      rw [List.pairwise_cons, List.pairwise_cons]
      refine ⟨fun z hz => ?_, h⟩
      rcases List.mem_cons.1 hz with rfl | hz
      · omega
      · have := h.1 z hz; omega
theorem isortG_sorted (f : α → Int) (hf : ∀ x y, lt x y = decide (f x < f y)) (l : List α) : (isortG lt l).Pairwise (fun a b => f a ≤ f b) := by
  rw [isortG_eq, List.pairwise_reverse]
  have key : ∀ (l q : List α), q.Pairwise (fun a b => f b ≤ f a) → (l.foldl (insR lt) q).Pairwise (fun a b => f b ≤ f a) := by
    intro l
    induction l with
    | nil => intro q h; exact h
    | cons x l ih => intro q h; exact ih _ (insR_sorted lt f hf q x h)
  exact key l [] List.Pairwise.nil
end
end Go.Proofs.YtnpdbnkgipkgaaaGreat
/- Few holds sorted in place. Condition: at most 12. -/
namespace Go.Proofs.YtnpdbnkgipkgaaaGreat
open Go Go.RowKit
set_option maxRecDepth 100000
set_option linter.all false
set_option maxHeartbeats 1000000
variable {H : Hp} {K : AV → Hp → Prop}
theorem len64_a (n : Nat) (hn : n ≤ 12) (hk : ∀ r : Int, K (.c (.int .i64 r)) H) : ACalls Tryz.prog 160 [.c (.int .u64 n)] H K := by
  have hw : IntKind.u8.wrap (n : Int) = n := by
    have : ∀ m : Fin 13, IntKind.u8.wrap (m.val : Int) = m.val := by decide
    exact this ⟨n, by omega⟩
  refine acalls Tryz.func160 rfl (by kernel_rfl) (by simp (disch := first | omega | (simp only [go_sem]; first | done | omega)) only [go_sem]) (fun hH => ?_)
  simp (disch := first | omega | (simp only [go_sem]; first | done | omega)) only [go_sem]
  refine ⟨⟨by rw [hw]; omega, by rw [hw]; exact Int.lt_of_lt_of_le (b := 13) (by omega) (by decide +kernel)⟩, ?_⟩
  generalize List.getD _ _ _ = z
  simp (disch := first | omega | (simp only [go_sem]; first | done | omega)) only [go_sem]
  exact Ret.same (Nat.le_refl _) (hk _)
theorem len_a (n : Nat) (hn : n ≤ 12) (hk : ∀ r : Int, K (.c (.int .i64 r)) H) : ACalls Tryz.prog 125 [.c (.int .u64 n)] H K := by
  refine acalls Tryz.func125 rfl (by kernel_rfl) (by simp (disch := first | omega | (simp only [go_sem]; first | done | omega)) only [go_sem]) (fun hH => ?_)
  simp (disch := first | omega | (simp only [go_sem]; first | done | omega)) only [go_sem]
  refine len64_a n hn (fun r => ?_)
  simp (disch := first | omega | (simp only [go_sem]; first | done | omega)) only [go_sem]
  exact Ret.same (Nat.le_refl _) (hk r)
end Go.Proofs.YtnpdbnkgipkgaaaGreat
/- How long data is kept: the program. Condition: few holds, numbers as those of levels. -/
namespace Go.Proofs.YtnpdbnkgipkgaaaGreat
open Go Go.RowKit
set_option maxRecDepth 100000
set_option linter.all false
set_option maxHeartbeats 1000000
variable {H : Hp} {K : AV → Hp → Prop}
def ivl (x : Level) (m : Int) : Int × Int := if x.step = 0 then (m, m + 1) else (m / x.step * x.step, m / x.step * x.step + x.step)
def madeLt (x y : Hold) : Bool := decide (x.made < y.made)
def meets (w0 w1 : Int) (x : Hold) : Bool := decide (max x.t0 w0 < min x.t1 w1)
def stepU (last : Int) (x : Hold) : Int := if x.made ≤ last + 1 then max last (x.ends - 1) else last
def untilF (keep : Int) (h : List Hold) (w0 w1 : Int) : Int := (isortG madeLt (h.filter (meets w0 w1))).foldl stepU (w1 + keep)
def Hold.near (x : Hold) : Prop := -2000000000000 ≤ x.t0 ∧ x.t0 ≤ 2000000000000 ∧ -2000000000000 ≤ x.t1 ∧ x.t1 ≤ 2000000000000 ∧ -2000000000000 ≤ x.made ∧ x.made ≤ 2000000000000 ∧ -2000000000000 ≤ x.ends ∧ x.ends ≤ 2000000000000
theorem foldU_bd : ∀ (l : List Hold) (a : Int), (∀ x ∈ l, x.near) → -3000000000000 ≤ a → a ≤ 3000000000000 → -3000000000000 ≤ l.foldl stepU a ∧ l.foldl stepU a ≤ 3000000000000
  | [], a, _, h1, h2 => ⟨h1, h2⟩
  | x :: l, a, h, h1, h2 => by
    rw [List.foldl_cons]
    have hx := h x (by simp)
    simp only [Hold.near] at hx
    refine foldU_bd l _ (fun y hy => h y (by simp [hy])) ?_ ?_ <;> (unfold stepU; split <;> omega)
theorem pureL_encH (l : List Hold) : pureL (l.map encH) = true := pureL_map l (fun x => by simp [AC.pure])
end Go.Proofs.YtnpdbnkgipkgaaaGreat
/- Whether data is kept: the program; what holds hold: the document's answer. Condition: few holds, numbers as those of levels. -/
namespace Go.Proofs.YtnpdbnkgipkgaaaGreat
open Go Go.RowKit
set_option maxRecDepth 100000
set_option linter.all false
set_option maxHeartbeats 1000000
variable {H : Hp} {K : AV → Hp → Prop}
def keepB (x : Level) (h : List Hold) (m t : Int) : Bool := decide (t ≤ untilF x.keep h (ivl x m).1 (ivl x m).2)
theorem ivl_bd (x : Level) (m : Int) (hx : x.ok) (hm : 0 ≤ m) (hm2 : m ≤ 400000000000) : 0 ≤ (ivl x m).1 ∧ (ivl x m).1 ≤ m ∧ m < (ivl x m).2 ∧ (ivl x m).2 ≤ 500000000000 := by
  obtain ⟨h0, h1, h2, h3⟩ := hx
  unfold ivl
  split
  · dsimp only; omega
  · rename_i hs
    have t0 : 0 ≤ m / x.step := Int.ediv_nonneg (by omega) (by omega)
    have t1 : m / x.step * x.step ≤ m := Int.ediv_mul_le _ hs
    have t2 : 0 ≤ m / x.step * x.step := Int.mul_nonneg t0 (by omega)
    have t3 : m < m / x.step * x.step + x.step := by have := Int.emod_lt_of_pos m (b := x.step) (by omega); have := Int.emod_add_ediv_mul m x.step; omega
    dsimp only; omega
/-- a hold that holds data of a tag and of some moment of a time, at a time -/
def hold1 (tag : ByteArray) (w0 w1 t : Int) (x : Hold) : Bool := decide ((x.tag = noS ∨ x.tag = tag) ∧ x.t0 < w1 ∧ w0 < x.t1 ∧ x.made ≤ t ∧ t < x.ends)
def heldB (h : List Hold) (tag : ByteArray) (w0 w1 t : Int) : Bool := h.any (hold1 tag w0 w1 t)
end Go.Proofs.YtnpdbnkgipkgaaaGreat
/- Whether data is kept: the document's answer. Condition: few holds, numbers as those of levels. -/
namespace Go.Proofs.YtnpdbnkgipkgaaaGreat
open Go Go.RowKit
set_option maxRecDepth 100000
set_option linter.all false
set_option maxHeartbeats 1000000
variable {H : Hp} {K : AV → Hp → Prop}
def timesF (first t : Int) (h : List Hold) : List Int := [first, t] ++ h.flatMap (fun x => [x.made, x.ends].filter (fun u => decide (first ≤ u ∧ u ≤ t)))
def keepRB (x : Level) (h : List Hold) (tag : ByteArray) (m t : Int) : Bool :=
  if t < (ivl x m).2 + x.keep + 1 then true else !(timesF ((ivl x m).2 + x.keep + 1) t h).any (fun u => !heldB h tag (ivl x m).1 (ivl x m).2 u)
theorem timesF_next (first t : Int) {h : List Hold} {k : Nat} (hk : k < h.length) : timesF first t (h.take (k + 1)) = timesF first t (h.take k) ++ (if first ≤ h[k].made ∧ h[k].made ≤ t then [h[k].made] else []) ++ (if first ≤ h[k].ends ∧ h[k].ends ≤ t then [h[k].ends] else []) := by
  rw [List.take_succ_eq_append_getElem hk]
  unfold timesF
  rw [List.flatMap_append, ← List.append_assoc, List.append_assoc (_ ++ _)]
  congr 1
  by_cases c1 : first ≤ h[k].made ∧ h[k].made ≤ t <;> by_cases c2 : first ≤ h[k].ends ∧ h[k].ends ≤ t <;> simp [c1, c2]
theorem timesF_len (first t : Int) (h : List Hold) : (timesF first t h).length ≤ 2 + 2 * h.length := by
  have key : ∀ k, k ≤ h.length → (timesF first t (h.take k)).length ≤ 2 + 2 * k := by
    intro k
    induction k with
    | zero => simp [timesF]
    | succ k ih =>
      intro hk
      have := ih (by omega)
      rw [timesF_next first t (by omega), List.length_append, List.length_append]
      split <;> split <;> simp <;> omega
  have := key h.length (Nat.le_refl _)
  rwa [List.take_length] at this
end Go.Proofs.YtnpdbnkgipkgaaaGreat
/- Both ways to ask whether data is kept are one: no program in sight. Condition: the holds' times are right. -/
namespace Go.Proofs.YtnpdbnkgipkgaaaGreat
open Go Go.RowKit
set_option maxRecDepth 100000
set_option linter.all false
theorem foldU_ge : ∀ (l : List Hold) (a : Int), a ≤ l.foldl stepU a
  | [], a => Int.le_refl _
  | x :: l, a => by
    rw [List.foldl_cons]
    refine Int.le_trans ?_ (foldU_ge l _)
    unfold stepU; split <;> omega
theorem foldU_is : ∀ (l : List Hold) (a : Int), l.foldl stepU a = a ∨ ∃ y ∈ l, l.foldl stepU a = y.ends - 1
  | [], a => .inl rfl
  | x :: l, a => by
    rw [List.foldl_cons]
    rcases foldU_is l (stepU a x) with h | ⟨y, hy, h⟩
    · rw [h]
      unfold stepU
      split
      · rcases Int.le_total a (x.ends - 1) with h1 | h1
        · exact .inr ⟨x, by simp, by omega⟩
        · exact .inl (by omega)
      · exact .inl rfl
    · exact .inr ⟨y, by simp [hy], h⟩
/-- up to there all times are held -/
theorem foldU_all : ∀ (l : List Hold) (a u : Int), a < u → u ≤ l.foldl stepU a → ∃ y ∈ l, y.made ≤ u ∧ u < y.ends
  | [], a, u, h1, h2 => by simp at h2; omega
  | x :: l, a, u, h1, h2 => by
    rw [List.foldl_cons] at h2
    by_cases h3 : stepU a x < u
    · obtain ⟨y, hy, h4⟩ := foldU_all l _ u h3 h2
      exact ⟨y, by simp [hy], h4⟩
    · refine ⟨x, by simp, ?_⟩
      unfold stepU at h3
      split at h3 <;> omega
/-- the next time is not held, if the holds are sorted -/
theorem foldU_next : ∀ (l : List Hold) (a : Int), l.Pairwise (fun x y => x.made ≤ y.made) → ∀ y ∈ l, ¬(y.made ≤ l.foldl stepU a + 1 ∧ l.foldl stepU a + 1 < y.ends)
  | [], _, _, y, hy => by simp at hy
  | x :: l, a, h, y, hy => by
    rw [List.pairwise_cons] at h
    rw [List.foldl_cons]
    rcases List.mem_cons.1 hy with rfl | hy
    · by_cases h1 : y.made ≤ a + 1
      · have h2 := foldU_ge l (stepU a y)
        have h3 : y.ends - 1 ≤ stepU a y := by unfold stepU; rw [if_pos h1]; omega
        omega
      · have h2 : stepU a y = a := by unfold stepU; rw [if_neg h1]
        have h3 : ∀ (l : List Hold), (∀ z ∈ l, y.made ≤ z.made) → l.foldl stepU a = a := by
          intro l
          induction l with
          | nil => intro _; rfl
          | cons z l ih =>
            intro hz
            rw [List.foldl_cons]
            have : stepU a z = a := by unfold stepU; rw [if_neg (by have := hz z (by simp); omega)]
            rw [this]
            exact ih (fun w hw => hz w (by simp [hw]))
        rw [h2, h3 l h.1]
        omega
    · exact foldU_next l _ h.2 y hy
theorem keep_eq (x : Level) (h : List Hold) (tag : ByteArray) (m t : Int) (hx : x.ok) (hm : 0 ≤ m) (hm2 : m ≤ 400000000000) (hv : ∀ y ∈ h, y.t0 < y.t1) : keepRB x h tag m t = keepB x (ofF h tag) m t := by
  have hb := ivl_bd x m hx hm hm2
  unfold keepRB keepB untilF
  generalize (ivl x m).1 = w0 at *
  generalize (ivl x m).2 = w1 at *
  have hS : ∀ y, y ∈ isortG madeLt ((ofF h tag).filter (meets w0 w1)) ↔ y ∈ h ∧ (y.tag = noS ∨ y.tag = tag) ∧ y.t0 < w1 ∧ w0 < y.t1 := by
    intro y
    rw [isortG_mem, List.mem_filter, ofF, List.mem_filter]
    simp only [meets, decide_eq_true_eq]
    constructor
    · rintro ⟨⟨h1, h2⟩, h3⟩; exact ⟨h1, h2, by omega, by omega⟩
    · rintro ⟨h1, h2, h3, h4⟩; have := hv y h1; exact ⟨⟨h1, h2⟩, by omega⟩
  have hsort := isortG_sorted madeLt (fun y => y.made) (fun _ _ => rfl) ((ofF h tag).filter (meets w0 w1))
  generalize isortG madeLt ((ofF h tag).filter (meets w0 w1)) = S at *
  have hheld : ∀ u, heldB h tag w0 w1 u = true ↔ ∃ y ∈ S, y.made ≤ u ∧ u < y.ends := by
    intro u
    unfold heldB
    rw [List.any_eq_true]
    simp only [hold1, decide_eq_true_eq]
    constructor
    · rintro ⟨y, h1, h2, h3, h4, h5, h6⟩; exact ⟨y, (hS y).2 ⟨h1, h2, h3, h4⟩, h5, h6⟩
    · rintro ⟨y, h1, h5, h6⟩
      obtain ⟨h1, h2, h3, h4⟩ := (hS y).1 h1
      exact ⟨y, h1, h2, h3, h4, h5, h6⟩
  have hge := foldU_ge S (w1 + x.keep)
  have hnx := foldU_next S (w1 + x.keep) hsort
  have his := foldU_is S (w1 + x.keep)
  have hall := fun u => foldU_all S (w1 + x.keep) u
  generalize S.foldl stepU (w1 + x.keep) = U at *
  rw [Bool.eq_iff_iff]
  split
  · simp only [true_iff, decide_eq_true_eq]; omega
  · rename_i c
    rw [decide_eq_true_eq, Bool.not_eq_true', List.any_eq_false]
    constructor
    · intro h1
      apply Classical.byContradiction
      intro h2
      have hmem : U + 1 ∈ timesF (w1 + x.keep + 1) t h := by
        unfold timesF
        rw [List.mem_append]
        rcases his with h3 | ⟨y, hy, h3⟩
        · left; simp; omega
        · right
          rw [List.mem_flatMap]
          exact ⟨y, ((hS y).1 hy).1, by simp; omega⟩
      have h4 := h1 _ hmem
      rw [Bool.not_eq_true', Bool.not_eq_false] at h4
      obtain ⟨y, hy, h5⟩ := (hheld _).1 h4
      exact hnx y hy h5
    · intro h1 u hu
      rw [Bool.not_eq_true', Bool.not_eq_false]
      have hu2 : w1 + x.keep + 1 ≤ u ∧ u ≤ t := by
        unfold timesF at hu
        rw [List.mem_append, List.mem_flatMap] at hu
        rcases hu with h3 | ⟨y, _, h3⟩
        · simp at h3; omega
        · simp at h3; omega
      exact (hheld u).2 (hall u (by omega) (by omega))
end Go.Proofs.YtnpdbnkgipkgaaaGreat
