/- Strings: bytes, keys. No condition. -/
import Derived.Test.YtagoolooikpabaaGreatDoorHTypes
import Derived.Lib.Bytealg
set_option linter.all false
namespace Go.Proofs.YtagoolooikpabaaGreatDoor
open Go Go.RowKit
set_option maxRecDepth 100000
set_option maxHeartbeats 1000000
variable {H : Hp} {K : AV → Hp → Prop}
theorem data_inj {a b : ByteArray} (h : a.data.toList = b.data.toList) : a = b := by
 obtain ⟨⟨x⟩⟩ := a
 obtain ⟨⟨y⟩⟩ := b
 simp at h
 rw [h]
@[go_sem] theorem str_eq (a b : ByteArray) : (a.toList == b.toList) = decide (a = b) := by
 rw [ByteArray.toList_eq, ByteArray.toList_eq, Bool.eq_iff_iff, beq_iff_eq, decide_eq_true_eq]
 exact ⟨data_inj, fun h => by rw [h]⟩
def byteAt (s : ByteArray) (i : Nat) : Int := ((s.data.toList.getD i 0).toNat : Int)
theorem byteAt_bd (s : ByteArray) (i : Nat) : 0 ≤ byteAt s i ∧ byteAt s i ≤ 255 := by
 unfold byteAt
 have := UInt8.toNat_lt (s.data.toList.getD i 0)
 omega
@[go_sem] theorem byteAt_fold (s : ByteArray) (i : Nat) : ((s.data.toList.getD i 0).toNat : Int) = byteAt s i := (rfl)
abbrev keyN (c : Int) : Prop := (97 ≤ c ∧ c ≤ 122) ∨ (48 ≤ c ∧ c ≤ 57) ∨ c = 45 ∨ c = 95
def isKey (s : ByteArray) : Prop := 1 ≤ s.size ∧ s.size ≤ 40 ∧ (97 ≤ byteAt s 0 ∧ byteAt s 0 ≤ 122) ∧ ∀ i, i < s.size → keyN (byteAt s i)
instance (s : ByteArray) : Decidable (isKey s) := by unfold isKey; infer_instance
theorem size_zero {s : ByteArray} : s = ⟨#[]⟩ ↔ s.size = 0 := by
 constructor
 ·rintro rfl; rfl
 ·intro h
  apply data_inj
  have h2 : s.data.toList.length = 0 := h
  rw [List.length_eq_zero_iff.1 h2]
theorem key_a (s : ByteArray) (hs : s.size ≤ 1099511627776) (hk : K (.c (.bool (decide (isKey s)))) H) : ACalls Tryz.prog 52 [(.c (.str s))] H K := by
 have hb := byteAt_bd s 0
 have bad : ¬(1 ≤ s.size ∧ s.size ≤ 40 ∧ (97 ≤ byteAt s 0 ∧ byteAt s 0 ≤ 122)) → decide (isKey s) = false := fun h => by
  rw [decide_eq_false_iff_not]
  exact fun h2 => h ⟨h2.1, h2.2.1, h2.2.2.1⟩
 by_cases h0 : s = ⟨#[]⟩
 ·have h1 := size_zero.1 h0
  refine acalls Tryz.func52 rfl kRf gT (fun hH => ?_)
  refine gO1 h0 ?_
  rw [bad oMg] at hk
  exact Ret.same lRf hk
 have h1 : 0 < s.size := by have := mt size_zero.2 h0; omega
 by_cases h2 : 40 < s.size
 ·refine acalls Tryz.func52 rfl kRf gT (fun hH => ?_)
  refine gO2 h0 h2 ?_
  rw [bad oMg] at hk
  exact Ret.same lRf hk
 by_cases h3 : byteAt s 0 < 97
 ·refine acalls Tryz.func52 rfl kRf gT (fun hH => ?_)
  refine gO3 h0 h2 h3 ?_
  rw [bad oMg] at hk
  exact Ret.same lRf hk
 by_cases h4 : 122 < byteAt s 0
 ·refine acalls Tryz.func52 rfl kRf gT (fun hH => ?_)
  refine gO4 h0 h2 h3 h4 ?_
  rw [bad oMg] at hk
  exact Ret.same lRf hk
 refine acalls Tryz.func52 rfl kRf gT (fun hH => ?_)
 refine gO4 h0 h2 h3 h4 ?_
 refine AWp.loop (H.length) [0, 23] [24] (fun (k : Nat) => k ≤ s.size ∧ ∀ i, i < k → keyN (byteAt s i)) (fun (k : Nat) => [(24, (.c (.int .i64 k)))]) (fun (k : Nat) => H) (fun (k : Nat) => s.size - k) kRf (fun _ => rfl) kRf sOo sOm kl ?_ (fun k hk1 _ _ => ?_)
 ·exact Next.mk 0 ⟨by omega, fun i hi => by omega⟩ wk
 obtain ⟨hk1, hk2⟩ := hk1
 by_cases hlt : k < s.size
 ·have hc := byteAt_bd s k
  by_cases hkey : keyN (byteAt s k)
  ·have hside : (k + 1 ≤ s.size ∧ ∀ i, i < k + 1 → keyN (byteAt s i)) ∧ s.size - (k + 1) < s.size - k := by
    refine ⟨⟨by omega, fun i hi => ?_⟩, by omega⟩
    rcases Nat.lt_or_ge i k with h | h
    ·exact hk2 i h
    ·obtain rfl : i = k := by omega
     exact hkey
   refine gO1 hlt ?_
   repeat' (first | ((first | refine acond_d ?_ ?_ | refine acond_b ?_ ?_ | refine ag_d ?_ ?_ | refine ag_n ?_ ?_ | refine ag_bt ?_ ?_ | refine ag_bf ?_ ?_) <;> intro c <;> try refine gO2 c hlt ?_) | ((first | refine w_draw kRf dKn ?_) <;> try refine gO1 hlt ?_))
   all_goals first
    | exact Next.mk (k + 1) hside wk
    | (exfalso; omega)
  ·have hf : decide (isKey s) = false := by
    rw [decide_eq_false_iff_not]
    exact fun h => hkey (h.2.2.2 k hlt)
   rw [hf] at hk
   refine gO1 hlt ?_
   repeat' (first | ((first | refine acond_d ?_ ?_ | refine acond_b ?_ ?_ | refine ag_d ?_ ?_ | refine ag_n ?_ ?_ | refine ag_bt ?_ ?_ | refine ag_bf ?_ ?_) <;> intro c <;> try refine gO2 c hlt ?_) | ((first | refine w_draw kRf dKn ?_) <;> try refine gO1 hlt ?_))
   all_goals first
    | exact Ret.same lRf hk
    | (exfalso; omega)
 ·refine gO1 hlt ?_
  rw [show decide (isKey s) = true from decide_eq_true ⟨by omega, by omega, by omega, fun i hi => hk2 i oMg⟩] at hk
  exact Ret.same lRf hk
theorem indexByteX (f : FuncId) (hf : externs Tryz.prog f Extern.BytealgIndexByte.indexByte) (s : ByteArray) (c : Int) (hk : K (.c (.int .i64 (Lib.indexByte s.data.toList c.toNat.toUInt8))) H) : AExt Tryz.prog f [(.c (.str s)), .c (.int .u8 c)] H K := by
 refine ⟨_, hf, fun B w0 ι w vs hs hr ho => ?_⟩
 obtain ⟨l⟩ := vs
 match l, hr with
 | [u, v], hr =>
  have h1 : u = .string s := hr.1
  have h2 : v = .int .u8 c := hr.2.1
  subst h1; subst h2
  refine ⟨_, w, Lib.run_indexByteString s c w, ι, _, (.c (.int .i64 (Lib.indexByte s.data.toList c.toNat.toUInt8))), H, rfl, Agree.refl _ _, Nat.le_refl _, hs, ?_, ?_, hk⟩
  ·rfl
  ·trivial
theorem ext_indexByte : externs Tryz.prog 262 Extern.BytealgIndexByte.indexByte := ⟨_, rfl, by kernel_rfl, by kernel_rfl, by kernel_rfl, by kernel_rfl⟩
theorem indexByte_a (s : ByteArray) (c : Int) (hk : K (.c (.int .i64 (Lib.indexByte s.data.toList c.toNat.toUInt8))) H) : ACalls Tryz.prog 167 [(.c (.str s)), .c (.int .u8 c)] H K := by
 have key : ∀ (K : AV → Hp → Prop), K (.c (.int .i64 (Lib.indexByte s.data.toList c.toNat.toUInt8))) H → ACalls Tryz.prog 217 [(.c (.str s)), .c (.int .u8 c)] H K := by
  intro K hk
  refine acalls Tryz.func217 rfl kRf gT (fun hH => ?_)
  refine gO ?_
  refine indexByteX _ ext_indexByte s c ?_
  refine gO ?_
  exact Ret.same lRf hk
 refine acalls Tryz.func167 rfl kRf gT (fun hH => ?_)
 refine gO ?_
 refine key _ ?_
 refine gO ?_
 exact Ret.same lRf hk
def onlyB (s t : ByteArray) : Prop := ∀ i, i < s.size → 0 ≤ Lib.indexByte t.data.toList (byteAt s i).toNat.toUInt8
instance (s t : ByteArray) : Decidable (onlyB s t) := by unfold onlyB; infer_instance
theorem only_a (s t : ByteArray) (hs : s.size ≤ 1099511627776) (hk : K (.c (.bool (decide (onlyB s t)))) H) : ACalls Tryz.prog 112 [(.c (.str s)), (.c (.str t))] H K := by
 refine acalls Tryz.func112 rfl kRf gT (fun hH => ?_)
 refine gO ?_
 refine AWp.loop (H.length) [0, 1, 7] [8] (fun (k : Nat) => k ≤ s.size ∧ ∀ i, i < k → 0 ≤ Lib.indexByte t.data.toList (byteAt s i).toNat.toUInt8) (fun (k : Nat) => [(8, (.c (.int .i64 k)))]) (fun (k : Nat) => H) (fun (k : Nat) => s.size - k) kRf (fun _ => rfl) kRf sOo sOm kl ?_ (fun k hk1 _ _ => ?_)
 ·exact Next.mk 0 ⟨by omega, fun i hi => by omega⟩ wk
 obtain ⟨hk1, hk2⟩ := hk1
 by_cases hlt : k < s.size
 ·refine gO1 hlt ?_
  refine indexByte_a t (byteAt s k) ?_
  refine gO ?_
  refine acond_d (fun c => ?_) (fun c => ?_)
  ·have hf : decide (onlyB s t) = false := by
    rw [decide_eq_false_iff_not]
    exact fun h => by have := h k hlt; omega
   rw [hf] at hk
   refine gO ?_
   exact Ret.same lRf hk
  ·refine gO ?_
   refine Next.mk (k + 1) ⟨⟨by omega, fun i hi => ?_⟩, by omega⟩ wk
   rcases Nat.lt_or_ge i k with h | h
   ·exact hk2 i h
   ·obtain rfl : i = k := by omega
    omega
 ·refine gO1 hlt ?_
  rw [show decide (onlyB s t) = true from decide_eq_true (fun i hi => hk2 i oMg)] at hk
  exact Ret.same lRf hk
theorem only_smalls : ∀ n : Fin 256, (0 ≤ Lib.indexByte [97, 98, 99, 100, 101, 102, 103, 104, 105, 106, 107, 108, 109, 110, 111, 112, 113, 114, 115, 116, 117, 118, 119, 120, 121, 122] n.val.toUInt8 ↔ 97 ≤ n.val ∧ n.val ≤ 122) := by decide +kernel
theorem only_keys : ∀ n : Fin 256, (0 ≤ Lib.indexByte [97, 98, 99, 100, 101, 102, 103, 104, 105, 106, 107, 108, 109, 110, 111, 112, 113, 114, 115, 116, 117, 118, 119, 120, 121, 122, 48, 49, 50, 51, 52, 53, 54, 55, 56, 57, 45, 95] n.val.toUInt8 ↔ keyN n.val) := by decide +kernel
theorem byteAt_take (s : ByteArray) (i : Nat) (h : i < 1) (hs : 1 ≤ s.size) : byteAt (s.extract 0 1) i = byteAt s i := by
 obtain rfl : i = 0 := by omega
 unfold byteAt
 congr 2
 obtain ⟨⟨l⟩⟩ := s
 cases l with
 | nil => simp [ByteArray.size] at hs
 | cons x xs => simp [ByteArray.extract, ByteArray.copySlice]
theorem keyR_a (s : ByteArray) (hs : s.size ≤ 1099511627776) (hk : K (.c (.bool (decide (isKey s)))) H) : ACalls Tryz.prog 57 [(.c (.str s))] H K := by
 by_cases h1 : 1 ≤ s.size ∧ s.size ≤ 40
 ·refine acalls Tryz.func57 rfl kRf gT (fun hH => ?_)
  refine gO ?_
  refine in_a _ _ _ _ _ ?_
  have hsz : (s.extract 0 1).size = 1 := by simp [ByteArray.size_extract]; omega
  have b0 := byteAt_bd s 0
  have e1 : onlyB (s.extract 0 1) ⟨#[97, 98, 99, 100, 101, 102, 103, 104, 105, 106, 107, 108, 109, 110, 111, 112, 113, 114, 115, 116, 117, 118, 119, 120, 121, 122]⟩ ↔ 97 ≤ byteAt s 0 ∧ byteAt s 0 ≤ 122 := by
   have h3 := only_smalls ⟨(byteAt s 0).toNat, by omega⟩
   unfold onlyB
   rw [hsz]
   constructor
   ·intro h
    have h4 := h 0 oMg
    rw [byteAt_take s 0 oMg h1.1] at h4
    have := h3.1 h4
    dsimp only at this
    omega
   ·intro h i hi
    rw [byteAt_take s i hi h1.1]
    obtain rfl : i = 0 := by omega
    exact h3.2 (by dsimp only; omega)
  have e2 : onlyB s ⟨#[97, 98, 99, 100, 101, 102, 103, 104, 105, 106, 107, 108, 109, 110, 111, 112, 113, 114, 115, 116, 117, 118, 119, 120, 121, 122, 48, 49, 50, 51, 52, 53, 54, 55, 56, 57, 45, 95]⟩ ↔ ∀ i, i < s.size → keyN (byteAt s i) := by
   have h3 : ∀ i, (0 ≤ Lib.indexByte [97, 98, 99, 100, 101, 102, 103, 104, 105, 106, 107, 108, 109, 110, 111, 112, 113, 114, 115, 116, 117, 118, 119, 120, 121, 122, 48, 49, 50, 51, 52, 53, 54, 55, 56, 57, 45, 95] (byteAt s i).toNat.toUInt8 ↔ keyN (byteAt s i)) := fun i => by
    have b := byteAt_bd s i
    have := only_keys ⟨(byteAt s i).toNat, by omega⟩
    dsimp only at this
    rw [this]
    simp only [keyN]
    omega
   unfold onlyB
   exact ⟨fun h i hi => (h3 i).1 (h i hi), fun h i hi => (h3 i).2 (h i hi)⟩
  refine gO1 h1 ?_
  refine only_a (s.extract 0 1) _ oMg ?_
  by_cases h2 : 97 ≤ byteAt s 0 ∧ byteAt s 0 ≤ 122
  ·rw [decide_eq_true (e1.2 h2)]
   refine gO1 h1 ?_
   refine only_a s _ hs ?_
   have e3 : decide (onlyB s ⟨#[97, 98, 99, 100, 101, 102, 103, 104, 105, 106, 107, 108, 109, 110, 111, 112, 113, 114, 115, 116, 117, 118, 119, 120, 121, 122, 48, 49, 50, 51, 52, 53, 54, 55, 56, 57, 45, 95]⟩) = decide (isKey s) := by
    rw [decide_eq_decide, e2]
    exact ⟨fun h => ⟨h1.1, h1.2, h2, h⟩, fun h => h.2.2.2⟩
   rw [e3]
   refine gO1 h1 ?_
   exact Ret.same lRf hk
  ·rw [decide_eq_false (fun h => h2 (e1.1 h))]
   have hf : decide (isKey s) = false := by
    rw [decide_eq_false_iff_not]
    exact fun h => h2 h.2.2.1
   rw [hf] at hk
   refine gO1 h1 ?_
   exact Ret.same lRf hk
 ·have hf : decide (isKey s) = false := by
   rw [decide_eq_false_iff_not]
   exact fun h => h1 ⟨h.1, h.2.1⟩
  rw [hf] at hk
  refine acalls Tryz.func57 rfl kRf gT (fun hH => ?_)
  refine gO ?_
  refine in_a _ _ _ _ _ ?_
  have h2 : decide (1 ≤ (s.size : Int) ∧ (s.size : Int) ≤ 40) = false := by rw [decide_eq_false_iff_not]; omega
  refine gO1 h2 ?_
  exact Ret.same lRf hk
end Go.Proofs.YtagoolooikpabaaGreatDoor
