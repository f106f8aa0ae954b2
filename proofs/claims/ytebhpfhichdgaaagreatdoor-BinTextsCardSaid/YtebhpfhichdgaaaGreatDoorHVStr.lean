/- Strings: bytes, keys. No condition. -/
import Derived.Test.YtebhpfhichdgaaaGreatDoorHVGA
import Derived.Lib.Bytealg
namespace Go.Proofs.YtebhpfhichdgaaaGreatDoor
open Go Go.RowKit
set_option maxRecDepth 100000
set_option linter.all false
set_option maxHeartbeats 1000000
variable {H : Hp} {K : AV → Hp → Prop}
theorem data_inj {a b : ByteArray} (h : a.data.toList = b.data.toList) : a = b := by
  obtain ⟨⟨x⟩⟩ := a
  obtain ⟨⟨y⟩⟩ := b
  simp at h
  rw [h]
@[go_sem] theorem str_eq (a b : ByteArray) : (a.toList == b.toList) = decide (a = b) := by
  rw [ByteArray.toList_eq, ByteArray.toList_eq, Bool.eq_iff_iff, beq_iff_eq, decide_eq_true_eq]
  exact ⟨data_inj, fun h => by rw [h]⟩
def byteAt (s : ByteArray) (i : Nat) : Int := ((s.data.toList.getD i 0).toNat : Int)
theorem byteAt_bd (s : ByteArray) (i : Nat) : 0 ≤ byteAt s i ∧ byteAt s i ≤ 255 := by
  unfold byteAt
  have := UInt8.toNat_lt (s.data.toList.getD i 0)
  omega
@[go_sem] theorem byteAt_fold (s : ByteArray) (i : Nat) : ((s.data.toList.getD i 0).toNat : Int) = byteAt s i := (rfl)
abbrev keyN (c : Int) : Prop := (97 ≤ c ∧ c ≤ 122) ∨ (48 ≤ c ∧ c ≤ 57) ∨ c = 45 ∨ c = 95
def isKey (s : ByteArray) : Prop := 1 ≤ s.size ∧ s.size ≤ 40 ∧ (97 ≤ byteAt s 0 ∧ byteAt s 0 ≤ 122) ∧ ∀ i, i < s.size → keyN (byteAt s i)
instance (s : ByteArray) : Decidable (isKey s) := by unfold isKey; infer_instance
theorem size_zero {s : ByteArray} : s = ⟨#[]⟩ ↔ s.size = 0 := by
  constructor
  · rintro rfl; rfl
  · intro h
    apply data_inj
    have h2 : s.data.toList.length = 0 := h
    rw [List.length_eq_zero_iff.1 h2]
theorem indexByteX (f : FuncId) (hf : externs Tryz.prog f Extern.BytealgIndexByte.indexByte) (s : ByteArray) (c : Int) (hk : K (.c (.int .i64 (Lib.indexByte s.data.toList c.toNat.toUInt8))) H) : AExt Tryz.prog f [(.c (.str s)), .c (.int .u8 c)] H K := by
  refine ⟨_, hf, fun B w0 ι w vs hs hr ho => ?_⟩
  obtain ⟨l⟩ := vs
  match l, hr with
  | [u, v], hr =>
    have h1 : u = .string s := hr.1
    have h2 : v = .int .u8 c := hr.2.1
    subst h1; subst h2
    refine ⟨_, w, Lib.run_indexByteString s c w, ι, _, (.c (.int .i64 (Lib.indexByte s.data.toList c.toNat.toUInt8))), H, rfl, Agree.refl _ _, Nat.le_refl _, hs, ?_, ?_, hk⟩
    · rfl
    · trivial
theorem ext_indexByte : externs Tryz.prog 333 Extern.BytealgIndexByte.indexByte := ⟨_, rfl, by kernel_rfl, by kernel_rfl, by kernel_rfl, by kernel_rfl⟩
def onlyB (s t : ByteArray) : Prop := ∀ i, i < s.size → 0 ≤ Lib.indexByte t.data.toList (byteAt s i).toNat.toUInt8
instance (s t : ByteArray) : Decidable (onlyB s t) := by unfold onlyB; infer_instance
end Go.Proofs.YtebhpfhichdgaaaGreatDoor
