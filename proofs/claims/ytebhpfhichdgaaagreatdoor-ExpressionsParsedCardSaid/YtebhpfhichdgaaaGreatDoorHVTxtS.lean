/- Package strings at separators of one byte: Count, Index, Split, Cut, CutSuffix, TrimPrefix. Condition: strings are no longer than a machine holds. -/
import Derived.Test.YtebhpfhichdgaaaGreatDoorHVTxtA
import Derived.Test.YtebhpfhichdgaaaGreatDoorHVTxtN
import Derived.Test.YtebhpfhichdgaaaGreatDoorHVAtoi
import Derived.Test.YtebhpfhichdgaaaGreatDoorHVGA
namespace Go.Proofs.YtebhpfhichdgaaaGreatDoor
open Go Go.RowKit
set_option maxRecDepth 100000
set_option linter.all false
set_option maxHeartbeats 2000000
variable {H : Hp} {K : AV → Hp → Prop}
def tB (l : List UInt8) : ByteArray := ⟨l.toArray⟩
def tL (s : ByteArray) : List UInt8 := s.data.toList
theorem tL_tB (l : List UInt8) : tL (tB l) = l := by simp [tL, tB]
theorem tL_len (s : ByteArray) : (tL s).length = s.size := rfl
theorem tB_size (l : List UInt8) : (tB l).size = l.length := by rw [← tL_len, tL_tB]
theorem tL_inj {a b : ByteArray} (h : tL a = tL b) : a = b := data_inj h
theorem tL_ext (s : ByteArray) (a b : Nat) : tL (s.extract a b) = ((tL s).drop a).take (b - a) := by
  obtain ⟨⟨x⟩⟩ := s
  simp [tL, ByteArray.extract, ByteArray.copySlice, List.extract_eq_take_drop, List.take_drop]
theorem ext_tB (l : List UInt8) (a b : Nat) : (tB l).extract a b = tB ((l.drop a).take (b - a)) := by
  apply tL_inj
  rw [tL_ext, tL_tB, tL_tB]
theorem app_tB (a b : List UInt8) : tB a ++ tB b = tB (a ++ b) := by
  apply tL_inj
  simp [tL, tB]
theorem tB_inj {a b : List UInt8} : tB a = tB b ↔ a = b := ⟨fun h => by rw [← tL_tB a, h, tL_tB], fun h => by rw [h]⟩
def encTx (l : List UInt8) : List AC := [.str (tB l)]
attribute [go_sem] encTx
theorem ixB_at {c : UInt8} : ∀ {a : List UInt8} (b : List UInt8), c ∉ a → Lib.indexByte (a ++ c :: b) c = a.length
  | [], b, _ => by
    show Lib.indexByte (c :: b) c = _
    unfold Lib.indexByte
    rw [if_pos (by simp)]
    rfl
  | x :: t, b, h => by
    have h1 : x ≠ c := fun e => h (by simp [e])
    have ih := ixB_at (a := t) b (fun e => h (List.mem_cons_of_mem _ e))
    rw [List.cons_append]
    unfold Lib.indexByte
    rw [if_neg (by simpa using h1), ih, if_neg (by simp)]
    simp
theorem u8_back (c : UInt8) : ((c.toNat : Int).toNat).toUInt8 = c := by simp
theorem index1_a (s : ByteArray) (c : UInt8) (hk : K (.c (.int .i64 (Lib.indexByte (tL s) c))) H) : ACalls Tryz.prog 235 [(.c (.str s)), (.c (.str (tB [c])))] H K := by
  have e1 : (tB [c]).size = 1 := rfl
  have e2 : byteAt (tB [c]) 0 = (c.toNat : Int) := rfl
  have key : ∀ (K : AV → Hp → Prop), K (.c (.int .i64 (Lib.indexByte (tL s) c))) H → ACalls Tryz.prog 291 [(.c (.str s)), .c (.int .u8 (c.toNat : Int))] H K := by
    intro K hk
    refine acalls Tryz.func291 rfl (by kernel_rfl) (by simp (disch := first | omega | (simp only [go_sem]; first | done | omega)) only [go_sem]) (fun hH => ?_)
    simp (disch := first | omega | (simp only [go_sem]; first | done | omega)) only [go_sem]
    refine indexByteX _ ext_indexByte s _ ?_
    rw [u8_back]
    simp (disch := first | omega | (simp only [go_sem]; first | done | omega)) only [go_sem]
    exact Ret.same (Nat.le_refl _) hk
  refine acalls Tryz.func235 rfl (by kernel_rfl) (by simp (disch := first | omega | (simp only [go_sem]; first | done | omega)) only [go_sem]) (fun hH => ?_)
  simp (disch := first | omega | (simp only [go_sem]; first | done | omega)) only [go_sem, e1, e2]
  by_cases hs : tB [c] = s
  · have e3 : Lib.indexByte (tL s) c = 0 := by
      rw [← hs, tL_tB]
      exact ixB_at (a := []) [] (by simp)
    rw [e3] at hk
    simp (disch := first | omega | (simp only [go_sem]; first | done | omega)) only [go_sem, hs]
    exact Ret.same (Nat.le_refl _) hk
  simp (disch := first | omega | (simp only [go_sem]; first | done | omega)) only [go_sem, hs]
  refine key _ ?_
  simp (disch := first | omega | (simp only [go_sem]; first | done | omega)) only [go_sem]
  exact Ret.same (Nat.le_refl _) hk
theorem indexS_a (s : ByteArray) (c : UInt8) (hk : K (.c (.int .i64 (Lib.indexByte (tL s) c))) H) : ACalls Tryz.prog 160 [(.c (.str s)), (.c (.str (tB [c])))] H K := by
  refine acalls Tryz.func160 rfl (by kernel_rfl) (by simp (disch := first | omega | (simp only [go_sem]; first | done | omega)) only [go_sem]) (fun hH => ?_)
  simp (disch := first | omega | (simp only [go_sem]; first | done | omega)) only [go_sem]
  refine index1_a s c ?_
  simp (disch := first | omega | (simp only [go_sem]; first | done | omega)) only [go_sem]
  exact Ret.same (Nat.le_refl _) hk
theorem hasP_a (l : List UInt8) (c : UInt8) (hl : l.length ≤ 1000000) (hk : K (.c (.bool (decide (l.head? = some c)))) H) : ACalls Tryz.prog 251 [(.c (.str (tB l))), (.c (.str (tB [c])))] H K := by
  have e1 : (tB [c]).size = 1 := rfl
  have hsz := tB_size l
  cases l with
  | nil =>
    refine acalls Tryz.func251 rfl (by kernel_rfl) (by simp (disch := first | omega | (simp only [go_sem]; first | done | omega)) only [go_sem]) (fun hH => ?_)
    simp (disch := first | omega | (simp only [go_sem]; first | done | omega)) only [go_sem, e1, hsz]
    exact Ret.same (Nat.le_refl _) hk
  | cons x t =>
    have h1 : (tB (x :: t)).extract 0 1 = tB [x] := by rw [ext_tB]; rfl
    have h2 : decide (tB [x] = tB [c]) = decide ((x :: t).head? = some c) := by
      rw [decide_eq_decide, tB_inj]
      simp
    refine acalls Tryz.func251 rfl (by kernel_rfl) (by simp (disch := first | omega | (simp only [go_sem]; first | done | omega)) only [go_sem]) (fun hH => ?_)
    simp (disch := first | omega | (simp only [go_sem]; first | done | omega)) only [go_sem, e1, hsz, h1]
    rw [h2]
    exact Ret.same (Nat.le_refl _) hk
theorem trimP_a (l : List UInt8) (hl : l.length ≤ 1000000) (hk : K (.c (.str (tB (stripF l)))) H) : ACalls Tryz.prog 239 [(.c (.str (tB l))), (.c (.str (tB [45])))] H K := by
  have e1 : (tB [45]).size = 1 := rfl
  have hsz := tB_size l
  have key : ∀ (K : AV → Hp → Prop), K (.c (.str (tB (stripF l)))) H → ACalls Tryz.prog 300 [(.c (.str (tB l))), (.c (.str (tB [45])))] H K := by
    intro K hk
    unfold stripF at hk
    refine acalls Tryz.func300 rfl (by kernel_rfl) (by simp (disch := first | omega | (simp only [go_sem]; first | done | omega)) only [go_sem]) (fun hH => ?_)
    simp (disch := first | omega | (simp only [go_sem]; first | done | omega)) only [go_sem]
    refine hasP_a l 45 hl ?_
    by_cases h : l.head? = some 45
    · obtain ⟨t, rfl⟩ : ∃ t, l = 45 :: t := by
        cases l with
        | nil => cases h
        | cons x t => simp only [List.head?_cons, Option.some.injEq] at h; exact ⟨t, by rw [h]⟩
      rw [if_pos h] at hk
      have h1 : (tB (45 :: t)).extract 1 (tB (45 :: t)).size = tB t := by rw [ext_tB, hsz]; simp
      rw [decide_eq_true h]
      rw [hsz, List.length_cons] at h1
      simp (disch := first | omega | (simp only [go_sem]; first | done | omega)) only [go_sem, e1, hsz]
      rw [h1]
      exact Ret.same (Nat.le_refl _) hk
    · rw [if_neg h] at hk
      rw [decide_eq_false h]
      simp (disch := first | omega | (simp only [go_sem]; first | done | omega)) only [go_sem]
      exact Ret.same (Nat.le_refl _) hk
  refine acalls Tryz.func239 rfl (by kernel_rfl) (by simp (disch := first | omega | (simp only [go_sem]; first | done | omega)) only [go_sem]) (fun hH => ?_)
  simp (disch := first | omega | (simp only [go_sem]; first | done | omega)) only [go_sem]
  refine key _ ?_
  simp (disch := first | omega | (simp only [go_sem]; first | done | omega)) only [go_sem]
  exact Ret.same (Nat.le_refl _) hk
end Go.Proofs.YtebhpfhichdgaaaGreatDoor
