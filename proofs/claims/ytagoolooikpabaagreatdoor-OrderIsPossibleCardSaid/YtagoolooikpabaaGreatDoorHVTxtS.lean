/- Several texts in one: Package strings at separators of one byte: Count, Index, Split, Cut, CutSuffix, TrimPrefix, and what follows. No condition. -/
import Derived.Test.YtagoolooikpabaaGreatDoorHVTxtA
import Derived.Test.YtagoolooikpabaaGreatDoorHVSmp
import Derived.Shelf.Strings.Search3
set_option linter.all false
namespace Go.Proofs.YtagoolooikpabaaGreatDoor
open Go Go.RowKit
set_option maxRecDepth 100000
set_option maxHeartbeats 2000000
variable {H : Hp} {K : AV → Hp → Prop}
def tB (l : List UInt8) : ByteArray := ⟨l.toArray⟩
def tL (s : ByteArray) : List UInt8 := s.data.toList
theorem tL_tB (l : List UInt8) : tL (tB l) = l := by simp [tL, tB]
theorem tL_len (s : ByteArray) : (tL s).length = s.size := rfl
theorem tB_size (l : List UInt8) : (tB l).size = l.length := by rw [← tL_len, tL_tB]
theorem tL_inj {a b : ByteArray} (h : tL a = tL b) : a = b := data_inj h
theorem tL_ext (s : ByteArray) (a b : Nat) : tL (s.extract a b) = ((tL s).drop a).take (b - a) := by
 obtain ⟨⟨x⟩⟩ := s
 simp [tL, ByteArray.extract, ByteArray.copySlice, List.extract_eq_take_drop, List.take_drop]
theorem ext_tB (l : List UInt8) (a b : Nat) : (tB l).extract a b = tB ((l.drop a).take (b - a)) := by
 apply tL_inj
 rw [tL_ext, tL_tB, tL_tB]
theorem tB_inj {a b : List UInt8} : tB a = tB b ↔ a = b := ⟨fun h => by rw [← tL_tB a, h, tL_tB], fun h => by rw [h]⟩
theorem ixB_at {c : UInt8} : ∀ {a : List UInt8} (b : List UInt8), c ∉ a → Lib.indexByte (a ++ c :: b) c = a.length
 | [], b, _ => by
  show Lib.indexByte (c :: b) c = _
  unfold Lib.indexByte
  rw [if_pos (by simp)]
  rfl
 | x :: t, b, h => by
  have h1 : x ≠ c := fun e => h (by simp [e])
  have ih := ixB_at (a := t) b (fun e => h (List.mem_cons_of_mem _ e))
  rw [List.cons_append]
  unfold Lib.indexByte
  rw [if_neg (by simpa using h1), ih, if_neg (by simp)]
  simp
theorem u8_back (c : UInt8) : ((c.toNat : Int).toNat).toUInt8 = c := by simp
theorem index1_a (s : ByteArray) (c : UInt8) (hk : K (.c (.int .i64 (Lib.indexByte (tL s) c))) H) : ACalls Tryz.prog 168 [(.c (.str s)), (.c (.str (tB [c])))] H K := by
 have e1 : (tB [c]).size = 1 := rfl
 have e2 : byteAt (tB [c]) 0 = (c.toNat : Int) := rfl
 have key : ∀ (K : AV → Hp → Prop), K (.c (.int .i64 (Lib.indexByte (tL s) c))) H → ACalls Tryz.prog 217 [(.c (.str s)), .c (.int .u8 (c.toNat : Int))] H K := by
  intro K hk
  refine acalls Tryz.func217 rfl (by kernel_rfl) (by simp (disch := first | omega | (simp only [go_sem]; try omega)) only [go_sem]) (fun hH => ?_)
  simp (disch := first | omega | (simp only [go_sem]; try omega)) only [go_sem]
  refine indexByteX _ ext_indexByte s _ ?_
  rw [u8_back]
  simp (disch := first | omega | (simp only [go_sem]; try omega)) only [go_sem]
  exact Ret.same (Nat.le_refl _) hk
 refine acalls Tryz.func168 rfl (by kernel_rfl) (by simp (disch := first | omega | (simp only [go_sem]; try omega)) only [go_sem]) (fun hH => ?_)
 simp (disch := first | omega | (simp only [go_sem]; try omega)) only [go_sem, e1, e2]
 by_cases hs : tB [c] = s
 ·have e3 : Lib.indexByte (tL s) c = 0 := by
   rw [← hs, tL_tB]
   exact ixB_at (a := []) [] (by simp)
  rw [e3] at hk
  simp (disch := first | omega | (simp only [go_sem]; try omega)) only [go_sem, hs]
  exact Ret.same (Nat.le_refl _) hk
 simp (disch := first | omega | (simp only [go_sem]; try omega)) only [go_sem, hs]
 refine key _ ?_
 simp (disch := first | omega | (simp only [go_sem]; try omega)) only [go_sem]
 exact Ret.same (Nat.le_refl _) hk
theorem indexS_a (s : ByteArray) (c : UInt8) (hk : K (.c (.int .i64 (Lib.indexByte (tL s) c))) H) : ACalls Tryz.prog 113 [(.c (.str s)), (.c (.str (tB [c])))] H K := by
 refine acalls Tryz.func113 rfl (by kernel_rfl) (by simp (disch := first | omega | (simp only [go_sem]; try omega)) only [go_sem]) (fun hH => ?_)
 simp (disch := first | omega | (simp only [go_sem]; try omega)) only [go_sem]
 refine index1_a s c ?_
 simp (disch := first | omega | (simp only [go_sem]; try omega)) only [go_sem]
 exact Ret.same (Nat.le_refl _) hk
theorem hasP_a (l : List UInt8) (c : UInt8) (hl : l.length ≤ 1000000) (hk : K (.c (.bool (decide (l.head? = some c)))) H) : ACalls Tryz.prog 304 [(.c (.str (tB l))), (.c (.str (tB [c])))] H K := by
 have e1 : (tB [c]).size = 1 := rfl
 have hsz := tB_size l
 cases l with
 | nil =>
  refine acalls Tryz.func304 rfl (by kernel_rfl) (by simp (disch := first | omega | (simp only [go_sem]; try omega)) only [go_sem]) (fun hH => ?_)
  simp (disch := first | omega | (simp only [go_sem]; try omega)) only [go_sem, e1, hsz]
  exact Ret.same (Nat.le_refl _) hk
 | cons x t =>
  have h1 : (tB (x :: t)).extract 0 1 = tB [x] := by rw [ext_tB]; rfl
  have h2 : decide (tB [x] = tB [c]) = decide ((x :: t).head? = some c) := by
   rw [decide_eq_decide, tB_inj]
   simp
  refine acalls Tryz.func304 rfl (by kernel_rfl) (by simp (disch := first | omega | (simp only [go_sem]; try omega)) only [go_sem]) (fun hH => ?_)
  simp (disch := first | omega | (simp only [go_sem]; try omega)) only [go_sem, e1, hsz, h1]
  rw [h2]
  exact Ret.same (Nat.le_refl _) hk
theorem trimP_a (l : List UInt8) (hl : l.length ≤ 1000000) (hk : K (.c (.str (tB (stripF l)))) H) : ACalls Tryz.prog 305 [(.c (.str (tB l))), (.c (.str (tB [45])))] H K := by
 have e1 : (tB [45]).size = 1 := rfl
 have hsz := tB_size l
 have key : ∀ (K : AV → Hp → Prop), K (.c (.str (tB (stripF l)))) H → ACalls Tryz.prog 309 [(.c (.str (tB l))), (.c (.str (tB [45])))] H K := by
  intro K hk
  unfold stripF at hk
  refine acalls Tryz.func309 rfl (by kernel_rfl) (by simp (disch := first | omega | (simp only [go_sem]; try omega)) only [go_sem]) (fun hH => ?_)
  simp (disch := first | omega | (simp only [go_sem]; try omega)) only [go_sem]
  refine hasP_a l 45 hl ?_
  by_cases h : l.head? = some 45
  ·obtain ⟨t, rfl⟩ : ∃ t, l = 45 :: t := by
    cases l with
    | nil => cases h
    | cons x t => simp only [List.head?_cons, Option.some.injEq] at h; exact ⟨t, by rw [h]⟩
   rw [if_pos h] at hk
   have h1 : (tB (45 :: t)).extract 1 (tB (45 :: t)).size = tB t := by rw [ext_tB, hsz]; simp
   rw [decide_eq_true h]
   rw [hsz, List.length_cons] at h1
   simp (disch := first | omega | (simp only [go_sem]; try omega)) only [go_sem, e1, hsz]
   rw [h1]
   exact Ret.same (Nat.le_refl _) hk
  ·rw [if_neg h] at hk
   rw [decide_eq_false h]
   simp (disch := first | omega | (simp only [go_sem]; try omega)) only [go_sem]
   exact Ret.same (Nat.le_refl _) hk
 refine acalls Tryz.func305 rfl (by kernel_rfl) (by simp (disch := first | omega | (simp only [go_sem]; try omega)) only [go_sem]) (fun hH => ?_)
 simp (disch := first | omega | (simp only [go_sem]; try omega)) only [go_sem]
 refine key _ ?_
 simp (disch := first | omega | (simp only [go_sem]; try omega)) only [go_sem]
 exact Ret.same (Nat.le_refl _) hk
end Go.Proofs.YtagoolooikpabaaGreatDoor
namespace Go.Proofs.YtagoolooikpabaaGreatDoor
open Go Go.RowKit Go.Shelf
set_option maxRecDepth 100000
set_option maxHeartbeats 1000000
variable {H : Hp} {K : AV → Hp → Prop}
def conRen : Go.Shelf.Ren := { f := fun x => match x with | 144 => 58 | 143 => 113 | 219 => 168 | 217 => 217 | 225 => 218 | 224 => 219 | 267 => 220 | 266 => 262 | 314 => 263 | n => n, t := fun x => match x with | 9 => 9 | 4 => 4 | 3 => 3 | 5 => 5 | 46 => 236 | 146 => 334 | 51 => 147 | n => n, g := fun x => match x with | 1 => 0 | n => n }
theorem conLay : Lays.n144 Tryz.prog conRen := {
 mixed := by kernel_rfl
 f143 := by kernel_rfl
 f144 := by kernel_rfl
 f217 := by kernel_rfl
 f219 := by kernel_rfl
 f224 := by kernel_rfl
 f225 := by kernel_rfl
 f266 := by kernel_rfl
 f267 := by kernel_rfl
 f314 := by kernel_rfl
 t3 := by kernel_rfl
 a3 := fun w => by kernel_rfl
 z3 := fun w => by kernel_rfl
 v3 := fun w => by kernel_rfl
 t4 := by kernel_rfl
 a4 := fun w => by kernel_rfl
 z4 := fun w => by kernel_rfl
 v4 := fun w => by kernel_rfl
 t5 := by kernel_rfl
 a5 := fun w => by kernel_rfl
 z5 := fun w => by kernel_rfl
 v5 := fun w => by kernel_rfl
 t9 := by kernel_rfl
 a9 := fun w => by kernel_rfl
 z9 := fun w => by kernel_rfl
 v9 := fun w => by kernel_rfl
 t46 := by kernel_rfl
 a46 := fun w => by kernel_rfl
 z46 := fun w => by kernel_rfl
 v46 := fun w => by kernel_rfl
 t51 := by kernel_rfl
 a51 := fun w => by kernel_rfl
 z51 := fun w => by kernel_rfl
 v51 := fun w => by kernel_rfl
 t146 := by kernel_rfl
 a146 := fun w => by kernel_rfl
 z146 := fun w => by kernel_rfl
 v146 := fun w => by kernel_rfl
 g1 := by kernel_rfl }
theorem contains_a (s sub : ByteArray) (hs : s.size ≤ 1000000000) (hk : K (.c (.bool (Lib.contains (tL s) (tL sub)))) H) : ACalls Tryz.prog 58 [(.c (.str s)), (.c (.str sub))] H K := by
 intro B w0 ι w vs hs' hr ho
 obtain ⟨l⟩ := vs
 match l, hr with
 | [v, u], hr =>
  have hv : v = .string s := hr.1
  have hu : u = .string sub := hr.2.1
  subst hv hu
  have kn : Kn B w := hs'.known.to (fun _ h => h) hs'.below.block
  obtain ⟨_, m, hm⟩ := kn.num 0 (by unfold knownN; simp)
  refine Calls.mono (Any.strings_Contains conLay s sub m w (by omega) hm) ?_
  rintro e w' ⟨rfl, rfl⟩
  exact ⟨ι, _, (.c (.bool (Lib.contains (tL s) (tL sub)))), _, rfl, Agree.refl _ _, Nat.le_refl _, hs', rfl, by simp [AV.ok, AV.ok1, AC.ok], hk⟩
end Go.Proofs.YtagoolooikpabaaGreatDoor
namespace Go.Proofs.YtagoolooikpabaaGreatDoor
open Go Go.RowKit
set_option maxRecDepth 100000
set_option maxHeartbeats 2000000
variable {H : Hp} {K : AV → Hp → Prop}
theorem byteAt_tB (l : List UInt8) (i : Nat) : byteAt (tB l) i = ((l.getD i 0).toNat : Int) := by
 show (((tL (tB l)).getD i 0).toNat : Int) = _
 rw [tL_tB]
theorem dig_iff (b : UInt8) : (Lib.digitVal b).isSome = decide (48 ≤ b.toNat ∧ b.toNat ≤ 57) := by
 unfold Lib.digitVal
 split <;> simp_all <;> omega
theorem getD_in {l : List UInt8} {i : Nat} (h : i < l.length) : l.getD i 0 = l[i] := by
 rw [List.getD_eq_getElem?_getD, List.getElem?_eq_getElem h, Option.getD_some]
theorem digB_iff (d : List UInt8) : digB d = true ↔ ∀ i, i < d.length → 48 ≤ byteAt (tB d) i ∧ byteAt (tB d) i ≤ 57 := by
 unfold digB
 rw [List.all_eq_true]
 constructor
 ·intro h i hi
  have := h _ (List.getElem_mem hi)
  rw [dig_iff, decide_eq_true_eq] at this
  rw [byteAt_tB, getD_in hi]
  omega
 ·intro h b hb
  obtain ⟨i, hi, rfl⟩ := List.mem_iff_getElem.1 hb
  have := h i hi
  rw [byteAt_tB, getD_in hi] at this
  rw [dig_iff, decide_eq_true_eq]
  omega
theorem strip_le (l : List UInt8) : (stripF l).length ≤ l.length ∧ l.length ≤ (stripF l).length + 1 := by
 unfold stripF
 split
 ·rw [List.length_tail]; omega
 ·omega
theorem tB_nil {l : List UInt8} : tB l = ⟨#[]⟩ ↔ l = [] := by
 rw [size_zero, tB_size, List.length_eq_zero_iff]
theorem only_digits : ∀ n : Fin 256, (0 ≤ Lib.indexByte [48, 49, 50, 51, 52, 53, 54, 55, 56, 57] n.val.toUInt8 ↔ 48 ≤ n.val ∧ n.val ≤ 57) := by decide
theorem onlyD (d : List UInt8) : decide (onlyB (tB d) ⟨#[48, 49, 50, 51, 52, 53, 54, 55, 56, 57]⟩) = digB d := by
 rw [Bool.eq_iff_iff, decide_eq_true_eq, digB_iff]
 unfold onlyB
 rw [tB_size]
 refine forall_congr' fun i => forall_congr' fun _ => ?_
 have hb := byteAt_bd (tB d) i
 have := only_digits ⟨(byteAt (tB d) i).toNat, by omega⟩
 refine Iff.trans this ?_
 constructor
 ·intro h; dsimp only at h; omega
 ·intro h; dsimp only; omega
theorem numR_a (l : List UInt8) (m : Nat) (hl : l.length ≤ 1000000) (hm : m ≤ 15) (hk : ∀ v : Int, (∀ n, numF l m = some n → v = n) → K (.tup [(.c (.int .i64 v)), (.c (.bool ((numF l m).isSome)))]) H) : ACalls Tryz.prog 287 [(.c (.str (tB l))), (.c (.int .i64 m))] H K := by
 have hs1 := strip_le l
 have hsz := tB_size l
 have hsd := tB_size (stripF l)
 have hnf := numF_eq l m
 refine acalls Tryz.func287 rfl (by kernel_rfl) (by simp (disch := first | omega | (simp only [go_sem]; try omega)) only [go_sem]) (fun hH => ?_)
 simp (disch := first | omega | (simp only [go_sem]; try omega)) only [go_sem]
 refine trimP_a l hl ?_
 generalize hd : stripF l = d at *
 by_cases h0 : d = []
 ·rw [if_pos (.inl h0)] at hnf
  rw [hnf] at hk
  simp (disch := first | omega | (simp only [go_sem]; try omega)) only [go_sem, tB_nil, h0]
  exact Ret.same (Nat.le_refl _) (hk _ (by simp))
 have h0' : ¬ tB d = ⟨#[]⟩ := fun e => h0 (tB_nil.1 e)
 by_cases h1 : m < d.length
 ·rw [if_pos (.inr h1)] at hnf
  rw [hnf] at hk
  simp (disch := first | omega | (simp only [go_sem]; try omega)) only [go_sem, h0', hsd, h1]
  exact Ret.same (Nat.le_refl _) (hk _ (by simp))
 rw [if_neg (fun e => e.elim h0 h1)] at hnf
 simp (disch := first | omega | (simp only [go_sem]; try omega)) only [go_sem, h0', hsd, h1]
 refine only_a (tB d) ⟨#[48, 49, 50, 51, 52, 53, 54, 55, 56, 57]⟩ (by omega) ?_
 rw [onlyD]
 by_cases h2 : digB d = true
 ·rw [if_pos h2] at hnf
  obtain ⟨n, hn, hb1, hb2⟩ := atoi_bd (l := l) (by rw [hd]; exact h2) (by rw [hd]; exact h0) (by rw [hd]; omega)
  have hback := itoa_back (l := l) (by rw [hd]; exact h2) (by rw [hd]; exact h0) hn
  rw [hd] at hback
  simp (disch := first | omega | (simp only [go_sem]; try omega)) only [go_sem, h2]
  refine atoi_a (tB l) n (by omega) (by rw [show (tB l).data.toList = l from tL_tB l]; exact hn) ?_
  simp (disch := first | omega | (simp only [go_sem]; try omega)) only [go_sem]
  refine itoa_a n (by omega) (by omega) ?_
  simp (disch := first | omega | (simp only [go_sem]; try omega)) only [go_sem]
  rw [show (⟨(Lib.itoa n).toArray⟩ : ByteArray) = tB (Lib.itoa n) from rfl]
  by_cases h3 : d.head? = some 48 ∧ (1 < d.length ∨ d.length < l.length)
  ·rw [if_pos h3] at hnf
   rw [hnf] at hk
   rw [show decide (tB (Lib.itoa n) = tB l) = false from decide_eq_false fun e => hback.1 (tB_inj.1 e) h3]
   exact Ret.same (Nat.le_refl _) (hk _ (by simp))
  ·rw [if_neg h3, hn] at hnf
   rw [hnf] at hk
   rw [show decide (tB (Lib.itoa n) = tB l) = true from decide_eq_true (tB_inj.2 (hback.2 h3))]
   exact Ret.same (Nat.le_refl _) (hk _ (by simp))
 ·have h2' : digB d = false := by simpa using h2
  rw [if_neg h2, ite_self] at hnf
  rw [hnf] at hk
  simp (disch := first | omega | (simp only [go_sem]; try omega)) only [go_sem, h2']
  exact Ret.same (Nat.le_refl _) (hk _ (by simp))
end Go.Proofs.YtagoolooikpabaaGreatDoor
