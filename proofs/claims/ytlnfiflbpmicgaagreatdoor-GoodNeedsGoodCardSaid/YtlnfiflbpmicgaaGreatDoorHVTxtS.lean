/- Several texts in one: Package strings at separators of one byte: Count, Index, Split, Cut, CutSuffix, TrimPrefix, and what follows. No condition. -/
import Derived.Test.YtlnfiflbpmicgaaGreatDoorHVTxtA
import Derived.Test.YtlnfiflbpmicgaaGreatDoorHVTxtN
import Derived.Test.YtlnfiflbpmicgaaGreatDoorHVSmp
import Derived.Test.YtlnfiflbpmicgaaGreatDoorHVGA
import Derived.Shelf.Strings.Search3
/- Package strings at separators of one byte: Count, Index, Split, Cut, CutSuffix, TrimPrefix. Condition: strings are no longer than a machine holds. -/
namespace Go.Proofs.YtlnfiflbpmicgaaGreatDoor
open Go Go.RowKit
set_option maxRecDepth 100000
set_option linter.all false
set_option maxHeartbeats 2000000
variable {H : Hp} {K : AV → Hp → Prop}
def tB (l : List UInt8) : ByteArray := ⟨l.toArray⟩
def tL (s : ByteArray) : List UInt8 := s.data.toList
theorem tL_tB (l : List UInt8) : tL (tB l) = l := by simp [tL, tB]
theorem tL_len (s : ByteArray) : (tL s).length = s.size := rfl
theorem tB_size (l : List UInt8) : (tB l).size = l.length := by rw [← tL_len, tL_tB]
theorem tL_inj {a b : ByteArray} (h : tL a = tL b) : a = b := data_inj h
theorem tL_ext (s : ByteArray) (a b : Nat) : tL (s.extract a b) = ((tL s).drop a).take (b - a) := by
  obtain ⟨⟨x⟩⟩ := s
  simp [tL, ByteArray.extract, ByteArray.copySlice, List.extract_eq_take_drop, List.take_drop]
theorem ext_tB (l : List UInt8) (a b : Nat) : (tB l).extract a b = tB ((l.drop a).take (b - a)) := by
  apply tL_inj
  rw [tL_ext, tL_tB, tL_tB]
theorem tB_inj {a b : List UInt8} : tB a = tB b ↔ a = b := ⟨fun h => by rw [← tL_tB a, h, tL_tB], fun h => by rw [h]⟩
theorem ixB_at {c : UInt8} : ∀ {a : List UInt8} (b : List UInt8), c ∉ a → Lib.indexByte (a ++ c :: b) c = a.length
  | [], b, _ => by
    show Lib.indexByte (c :: b) c = _
    unfold Lib.indexByte
    rw [if_pos (by simp)]
    rfl
  | x :: t, b, h => by
    have h1 : x ≠ c := fun e => h (by simp [e])
    have ih := ixB_at (a := t) b (fun e => h (List.mem_cons_of_mem _ e))
    rw [List.cons_append]
    unfold Lib.indexByte
    rw [if_neg (by simpa using h1), ih, if_neg (by simp)]
    simp
theorem u8_back (c : UInt8) : ((c.toNat : Int).toNat).toUInt8 = c := by simp
theorem index1_a (s : ByteArray) (c : UInt8) (hk : K (.c (.int .i64 (Lib.indexByte (tL s) c))) H) : ACalls Tryz.prog 170 [(.c (.str s)), (.c (.str (tB [c])))] H K := by
  have e1 : (tB [c]).size = 1 := rfl
  have e2 : byteAt (tB [c]) 0 = (c.toNat : Int) := rfl
  have key : ∀ (K : AV → Hp → Prop), K (.c (.int .i64 (Lib.indexByte (tL s) c))) H → ACalls Tryz.prog 231 [(.c (.str s)), .c (.int .u8 (c.toNat : Int))] H K := by
    intro K hk
    refine acalls Tryz.func231 rfl (by kernel_rfl) (by simp (disch := first | omega | (simp only [go_sem]; first | done | omega)) only [go_sem]) (fun hH => ?_)
    simp (disch := first | omega | (simp only [go_sem]; first | done | omega)) only [go_sem]
    refine indexByteX _ ext_indexByte s _ ?_
    rw [u8_back]
    simp (disch := first | omega | (simp only [go_sem]; first | done | omega)) only [go_sem]
    exact Ret.same (Nat.le_refl _) hk
  refine acalls Tryz.func170 rfl (by kernel_rfl) (by simp (disch := first | omega | (simp only [go_sem]; first | done | omega)) only [go_sem]) (fun hH => ?_)
  simp (disch := first | omega | (simp only [go_sem]; first | done | omega)) only [go_sem, e1, e2]
  by_cases hs : tB [c] = s
  · have e3 : Lib.indexByte (tL s) c = 0 := by
      rw [← hs, tL_tB]
      exact ixB_at (a := []) [] (by simp)
    rw [e3] at hk
    simp (disch := first | omega | (simp only [go_sem]; first | done | omega)) only [go_sem, hs]
    exact Ret.same (Nat.le_refl _) hk
  simp (disch := first | omega | (simp only [go_sem]; first | done | omega)) only [go_sem, hs]
  refine key _ ?_
  simp (disch := first | omega | (simp only [go_sem]; first | done | omega)) only [go_sem]
  exact Ret.same (Nat.le_refl _) hk
theorem indexS_a (s : ByteArray) (c : UInt8) (hk : K (.c (.int .i64 (Lib.indexByte (tL s) c))) H) : ACalls Tryz.prog 90 [(.c (.str s)), (.c (.str (tB [c])))] H K := by
  refine acalls Tryz.func90 rfl (by kernel_rfl) (by simp (disch := first | omega | (simp only [go_sem]; first | done | omega)) only [go_sem]) (fun hH => ?_)
  simp (disch := first | omega | (simp only [go_sem]; first | done | omega)) only [go_sem]
  refine index1_a s c ?_
  simp (disch := first | omega | (simp only [go_sem]; first | done | omega)) only [go_sem]
  exact Ret.same (Nat.le_refl _) hk
end Go.Proofs.YtlnfiflbpmicgaaGreatDoor
/- strings.Contains at any text. Condition: not huge. -/
namespace Go.Proofs.YtlnfiflbpmicgaaGreatDoor
open Go Go.RowKit Go.Shelf
set_option maxRecDepth 100000
set_option linter.all false
set_option maxHeartbeats 1000000
variable {H : Hp} {K : AV → Hp → Prop}
def conRen : Go.Shelf.Ren := { f := fun x => match x with | 144 => 27 | 143 => 90 | 219 => 170 | 217 => 231 | 225 => 232 | 224 => 233 | 267 => 234 | 266 => 273 | 314 => 274 | n => n, t := fun x => match x with | 9 => 9 | 4 => 4 | 3 => 3 | 5 => 5 | 46 => 180 | 146 => 271 | 51 => 243 | n => n, g := fun x => match x with | 1 => 0 | n => n }
theorem conLay : Lays.n144 Tryz.prog conRen := {
  mixed := by kernel_rfl
  f143 := by kernel_rfl
  f144 := by kernel_rfl
  f217 := by kernel_rfl
  f219 := by kernel_rfl
  f224 := by kernel_rfl
  f225 := by kernel_rfl
  f266 := by kernel_rfl
  f267 := by kernel_rfl
  f314 := by kernel_rfl
  t3 := by kernel_rfl
  a3 := fun w => by kernel_rfl
  z3 := fun w => by kernel_rfl
  v3 := fun w => by kernel_rfl
  t4 := by kernel_rfl
  a4 := fun w => by kernel_rfl
  z4 := fun w => by kernel_rfl
  v4 := fun w => by kernel_rfl
  t5 := by kernel_rfl
  a5 := fun w => by kernel_rfl
  z5 := fun w => by kernel_rfl
  v5 := fun w => by kernel_rfl
  t9 := by kernel_rfl
  a9 := fun w => by kernel_rfl
  z9 := fun w => by kernel_rfl
  v9 := fun w => by kernel_rfl
  t46 := by kernel_rfl
  a46 := fun w => by kernel_rfl
  z46 := fun w => by kernel_rfl
  v46 := fun w => by kernel_rfl
  t51 := by kernel_rfl
  a51 := fun w => by kernel_rfl
  z51 := fun w => by kernel_rfl
  v51 := fun w => by kernel_rfl
  t146 := by kernel_rfl
  a146 := fun w => by kernel_rfl
  z146 := fun w => by kernel_rfl
  v146 := fun w => by kernel_rfl
  g1 := by kernel_rfl }
theorem contains_a (s sub : ByteArray) (hs : s.size ≤ 1000000000) (hk : K (.c (.bool (Lib.contains (tL s) (tL sub)))) H) : ACalls Tryz.prog 27 [(.c (.str s)), (.c (.str sub))] H K := by
  intro B w0 ι w vs hs' hr ho
  obtain ⟨l⟩ := vs
  match l, hr with
  | [v, u], hr =>
    have hv : v = .string s := hr.1
    have hu : u = .string sub := hr.2.1
    subst hv hu
    have kn : Kn B w := hs'.known.to (fun _ h => h) hs'.below.block
    obtain ⟨_, m, hm⟩ := kn.num 0 (by unfold knownN; simp)
    refine Calls.mono (Any.strings_Contains conLay s sub m w (by omega) hm) ?_
    rintro e w' ⟨rfl, rfl⟩
    exact ⟨ι, _, (.c (.bool (Lib.contains (tL s) (tL sub)))), _, rfl, Agree.refl _ _, Nat.le_refl _, hs', rfl, by simp [AV.ok, AV.ok1, AC.ok], hk⟩
end Go.Proofs.YtlnfiflbpmicgaaGreatDoor
/- A number of a string: base.Number and the reference's Number. -/
namespace Go.Proofs.YtlnfiflbpmicgaaGreatDoor
open Go Go.RowKit
set_option maxRecDepth 100000
set_option linter.all false
set_option maxHeartbeats 2000000
variable {H : Hp} {K : AV → Hp → Prop}
theorem byteAt_tB (l : List UInt8) (i : Nat) : byteAt (tB l) i = ((l.getD i 0).toNat : Int) := by
  show (((tL (tB l)).getD i 0).toNat : Int) = _
  rw [tL_tB]
theorem getD_in {l : List UInt8} {i : Nat} (h : i < l.length) : l.getD i 0 = l[i] := by
  rw [List.getD_eq_getElem?_getD, List.getElem?_eq_getElem h, Option.getD_some]
theorem strip_le (l : List UInt8) : (stripF l).length ≤ l.length ∧ l.length ≤ (stripF l).length + 1 := by
  unfold stripF
  split
  · rw [List.length_tail]; omega
  · omega
end Go.Proofs.YtlnfiflbpmicgaaGreatDoor
