/- Several texts in one: Package strings at separators of one byte: Count, Index, Split, Cut, CutSuffix, TrimPrefix, and what follows. No condition. -/
import Derived.Test.YtagoolooikpabaaGreatDoorHVTxtA
import Derived.Test.YtagoolooikpabaaGreatDoorHVSmp
import Derived.Shelf.Strings.Search3
set_option linter.all false
namespace Go.Proofs.YtagoolooikpabaaGreatDoor
open Go Go.RowKit
set_option maxRecDepth 100000
set_option maxHeartbeats 2000000
variable {H : Hp} {K : AV → Hp → Prop}
def tB (l : List UInt8) : ByteArray := ⟨l.toArray⟩
def tL (s : ByteArray) : List UInt8 := s.data.toList
theorem tL_tB (l : List UInt8) : tL (tB l) = l := by simp [tL, tB]
theorem tL_len (s : ByteArray) : (tL s).length = s.size := rfl
theorem tB_size (l : List UInt8) : (tB l).size = l.length := by rw [← tL_len, tL_tB]
theorem tL_inj {a b : ByteArray} (h : tL a = tL b) : a = b := data_inj h
theorem tL_ext (s : ByteArray) (a b : Nat) : tL (s.extract a b) = ((tL s).drop a).take (b - a) := by
 obtain ⟨⟨x⟩⟩ := s
 simp [tL, ByteArray.extract, ByteArray.copySlice, List.extract_eq_take_drop, List.take_drop]
theorem ext_tB (l : List UInt8) (a b : Nat) : (tB l).extract a b = tB ((l.drop a).take (b - a)) := by
 apply tL_inj
 rw [tL_ext, tL_tB, tL_tB]
theorem app_tB (a b : List UInt8) : tB a ++ tB b = tB (a ++ b) := by
 apply tL_inj
 simp [tL, tB]
theorem tB_inj {a b : List UInt8} : tB a = tB b ↔ a = b := ⟨fun h => by rw [← tL_tB a, h, tL_tB], fun h => by rw [h]⟩
theorem ixB_at {c : UInt8} : ∀ {a : List UInt8} (b : List UInt8), c ∉ a → Lib.indexByte (a ++ c :: b) c = a.length
 | [], b, _ => by
  show Lib.indexByte (c :: b) c = _
  unfold Lib.indexByte
  rw [if_pos sMp]
  rfl
 | x :: t, b, h => by
  have h1 : x ≠ c := fun e => h (by simp [e])
  have ih := ixB_at (a := t) b (fun e => h (List.mem_cons_of_mem _ e))
  rw [List.cons_append]
  unfold Lib.indexByte
  rw [if_neg (by simpa using h1), ih, if_neg sMp]
  simp
theorem u8_back (c : UInt8) : ((c.toNat : Int).toNat).toUInt8 = c := by simp
theorem index1_a (s : ByteArray) (c : UInt8) (hk : K (.c (.int .i64 (Lib.indexByte (tL s) c))) H) : ACalls Tryz.prog 168 [(.c (.str s)), (.c (.str (tB [c])))] H K := by
 have e1 : (tB [c]).size = 1 := rfl
 have e2 : byteAt (tB [c]) 0 = (c.toNat : Int) := rfl
 have key : ∀ (K : AV → Hp → Prop), K (.c (.int .i64 (Lib.indexByte (tL s) c))) H → ACalls Tryz.prog 217 [(.c (.str s)), .c (.int .u8 (c.toNat : Int))] H K := by
  intro K hk
  refine acalls Tryz.func217 rfl kRf gT (fun hH => ?_)
  refine gO ?_
  refine indexByteX _ ext_indexByte s _ ?_
  rw [u8_back]
  refine gO ?_
  exact Ret.same lRf hk
 refine acalls Tryz.func168 rfl kRf gT (fun hH => ?_)
 refine gO2 e1 e2 ?_
 by_cases hs : tB [c] = s
 ·have e3 : Lib.indexByte (tL s) c = 0 := by
   rw [← hs, tL_tB]
   exact ixB_at (a := []) [] sMp
  rw [e3] at hk
  refine gO1 hs ?_
  exact Ret.same lRf hk
 refine gO1 hs ?_
 refine key _ ?_
 refine gO ?_
 exact Ret.same lRf hk
theorem indexS_a (s : ByteArray) (c : UInt8) (hk : K (.c (.int .i64 (Lib.indexByte (tL s) c))) H) : ACalls Tryz.prog 113 [(.c (.str s)), (.c (.str (tB [c])))] H K := by
 refine acalls Tryz.func113 rfl kRf gT (fun hH => ?_)
 refine gO ?_
 refine index1_a s c ?_
 refine gO ?_
 exact Ret.same lRf hk
theorem hasP_a (l : List UInt8) (c : UInt8) (hl : l.length ≤ 1000000) (hk : K (.c (.bool (decide (l.head? = some c)))) H) : ACalls Tryz.prog 304 [(.c (.str (tB l))), (.c (.str (tB [c])))] H K := by
 have e1 : (tB [c]).size = 1 := rfl
 have hsz := tB_size l
 cases l with
 | nil =>
  refine acalls Tryz.func304 rfl kRf gT (fun hH => ?_)
  refine gO2 e1 hsz ?_
  exact Ret.same lRf hk
 | cons x t =>
  have h1 : (tB (x :: t)).extract 0 1 = tB [x] := by rw [ext_tB]; rfl
  have h2 : decide (tB [x] = tB [c]) = decide ((x :: t).head? = some c) := by
   rw [decide_eq_decide, tB_inj]
   simp
  refine acalls Tryz.func304 rfl kRf gT (fun hH => ?_)
  refine gO3 e1 hsz h1 ?_
  rw [h2]
  exact Ret.same lRf hk
theorem trimP_a (l : List UInt8) (hl : l.length ≤ 1000000) (hk : K (.c (.str (tB (stripF l)))) H) : ACalls Tryz.prog 305 [(.c (.str (tB l))), (.c (.str (tB [45])))] H K := by
 have e1 : (tB [45]).size = 1 := rfl
 have hsz := tB_size l
 have key : ∀ (K : AV → Hp → Prop), K (.c (.str (tB (stripF l)))) H → ACalls Tryz.prog 309 [(.c (.str (tB l))), (.c (.str (tB [45])))] H K := by
  intro K hk
  unfold stripF at hk
  refine acalls Tryz.func309 rfl kRf gT (fun hH => ?_)
  refine gO ?_
  refine hasP_a l 45 hl ?_
  by_cases h : l.head? = some 45
  ·obtain ⟨t, rfl⟩ : ∃ t, l = 45 :: t := by
    cases l with
    | nil => cases h
    | cons x t => simp only [List.head?_cons, Option.some.injEq] at h; exact ⟨t, by rw [h]⟩
   rw [if_pos h] at hk
   have h1 : (tB (45 :: t)).extract 1 (tB (45 :: t)).size = tB t := by rw [ext_tB, hsz]; simp
   rw [decide_eq_true h]
   rw [hsz, List.length_cons] at h1
   refine gO2 e1 hsz ?_
   rw [h1]
   exact Ret.same lRf hk
  ·rw [if_neg h] at hk
   rw [decide_eq_false h]
   refine gO ?_
   exact Ret.same lRf hk
 refine acalls Tryz.func305 rfl kRf gT (fun hH => ?_)
 refine gO ?_
 refine key _ ?_
 refine gO ?_
 exact Ret.same lRf hk
end Go.Proofs.YtagoolooikpabaaGreatDoor
namespace Go.Proofs.YtagoolooikpabaaGreatDoor
open Go Go.RowKit Go.Shelf
set_option maxRecDepth 100000
set_option maxHeartbeats 1000000
variable {H : Hp} {K : AV → Hp → Prop}
def conRen : Go.Shelf.Ren := { f := fun x => match x with | 144 => 58 | 143 => 113 | 219 => 168 | 217 => 217 | 225 => 218 | 224 => 219 | 267 => 220 | 266 => 262 | 314 => 263 | n => n, t := fun x => match x with | 9 => 9 | 4 => 4 | 3 => 3 | 5 => 5 | 46 => 236 | 146 => 334 | 51 => 147 | n => n, g := fun x => match x with | 1 => 0 | n => n }
theorem conLay : Lays.n144 Tryz.prog conRen := {
 mixed := by kernel_rfl
 f143 := by kernel_rfl
 f144 := by kernel_rfl
 f217 := by kernel_rfl
 f219 := by kernel_rfl
 f224 := by kernel_rfl
 f225 := by kernel_rfl
 f266 := by kernel_rfl
 f267 := by kernel_rfl
 f314 := by kernel_rfl
 t3 := by kernel_rfl
 a3 := fun w => by kernel_rfl
 z3 := fun w => by kernel_rfl
 v3 := fun w => by kernel_rfl
 t4 := by kernel_rfl
 a4 := fun w => by kernel_rfl
 z4 := fun w => by kernel_rfl
 v4 := fun w => by kernel_rfl
 t5 := by kernel_rfl
 a5 := fun w => by kernel_rfl
 z5 := fun w => by kernel_rfl
 v5 := fun w => by kernel_rfl
 t9 := by kernel_rfl
 a9 := fun w => by kernel_rfl
 z9 := fun w => by kernel_rfl
 v9 := fun w => by kernel_rfl
 t46 := by kernel_rfl
 a46 := fun w => by kernel_rfl
 z46 := fun w => by kernel_rfl
 v46 := fun w => by kernel_rfl
 t51 := by kernel_rfl
 a51 := fun w => by kernel_rfl
 z51 := fun w => by kernel_rfl
 v51 := fun w => by kernel_rfl
 t146 := by kernel_rfl
 a146 := fun w => by kernel_rfl
 z146 := fun w => by kernel_rfl
 v146 := fun w => by kernel_rfl
 g1 := by kernel_rfl }
theorem contains_a (s sub : ByteArray) (hs : s.size ≤ 1000000000) (hk : K (.c (.bool (Lib.contains (tL s) (tL sub)))) H) : ACalls Tryz.prog 58 [(.c (.str s)), (.c (.str sub))] H K := by
 intro B w0 ι w vs hs' hr ho
 obtain ⟨l⟩ := vs
 match l, hr with
 | [v, u], hr =>
  have hv : v = .string s := hr.1
  have hu : u = .string sub := hr.2.1
  subst hv hu
  have kn : Kn B w := hs'.known.to (fun _ h => h) hs'.below.block
  obtain ⟨_, m, hm⟩ := kn.num 0 (by unfold knownN; simp)
  refine Calls.mono (Any.strings_Contains conLay s sub m w oMg hm) ?_
  rintro e w' ⟨rfl, rfl⟩
  exact ⟨ι, _, (.c (.bool (Lib.contains (tL s) (tL sub)))), _, rfl, Agree.refl _ _, Nat.le_refl _, hs', rfl, by simp [AV.ok, AV.ok1, AC.ok], hk⟩
end Go.Proofs.YtagoolooikpabaaGreatDoor
namespace Go.Proofs.YtagoolooikpabaaGreatDoor
open Go Go.RowKit
set_option maxRecDepth 100000
set_option maxHeartbeats 2000000
variable {H : Hp} {K : AV → Hp → Prop}
theorem byteAt_tB (l : List UInt8) (i : Nat) : byteAt (tB l) i = ((l.getD i 0).toNat : Int) := by
 show (((tL (tB l)).getD i 0).toNat : Int) = _
 rw [tL_tB]
theorem dig_iff (b : UInt8) : (Lib.digitVal b).isSome = decide (48 ≤ b.toNat ∧ b.toNat ≤ 57) := by
 unfold Lib.digitVal
 split <;> simp_all <;> omega
theorem getD_in {l : List UInt8} {i : Nat} (h : i < l.length) : l.getD i 0 = l[i] := by
 rw [List.getD_eq_getElem?_getD, List.getElem?_eq_getElem h, Option.getD_some]
theorem digB_iff (d : List UInt8) : digB d = true ↔ ∀ i, i < d.length → 48 ≤ byteAt (tB d) i ∧ byteAt (tB d) i ≤ 57 := by
 unfold digB
 rw [List.all_eq_true]
 constructor
 ·intro h i hi
  have := h _ (List.getElem_mem hi)
  rw [dig_iff, decide_eq_true_eq] at this
  rw [byteAt_tB, getD_in hi]
  omega
 ·intro h b hb
  obtain ⟨i, hi, rfl⟩ := List.mem_iff_getElem.1 hb
  have := h i hi
  rw [byteAt_tB, getD_in hi] at this
  rw [dig_iff, decide_eq_true_eq]
  omega
theorem strip_le (l : List UInt8) : (stripF l).length ≤ l.length ∧ l.length ≤ (stripF l).length + 1 := by
 unfold stripF
 split
 ·rw [List.length_tail]; omega
 ·omega
theorem tB_nil {l : List UInt8} : tB l = ⟨#[]⟩ ↔ l = [] := by
 rw [size_zero, tB_size, List.length_eq_zero_iff]
theorem only_digits : ∀ n : Fin 256, (0 ≤ Lib.indexByte [48, 49, 50, 51, 52, 53, 54, 55, 56, 57] n.val.toUInt8 ↔ 48 ≤ n.val ∧ n.val ≤ 57) := by decide
theorem onlyD (d : List UInt8) : decide (onlyB (tB d) ⟨#[48, 49, 50, 51, 52, 53, 54, 55, 56, 57]⟩) = digB d := by
 rw [Bool.eq_iff_iff, decide_eq_true_eq, digB_iff]
 unfold onlyB
 rw [tB_size]
 refine forall_congr' fun i => forall_congr' fun _ => ?_
 have hb := byteAt_bd (tB d) i
 have := only_digits ⟨(byteAt (tB d) i).toNat, by omega⟩
 refine Iff.trans this ?_
 constructor
 ·intro h; dsimp only at h; omega
 ·intro h; dsimp only; omega
theorem numR_a (l : List UInt8) (m : Nat) (hl : l.length ≤ 1000000) (hm : m ≤ 15) (hk : ∀ v : Int, (∀ n, numF l m = some n → v = n) → K (.tup [(.c (.int .i64 v)), (.c (.bool ((numF l m).isSome)))]) H) : ACalls Tryz.prog 287 [(.c (.str (tB l))), (.c (.int .i64 m))] H K := by
 have hs1 := strip_le l
 have hsz := tB_size l
 have hsd := tB_size (stripF l)
 have hnf := numF_eq l m
 refine acalls Tryz.func287 rfl kRf gT (fun hH => ?_)
 refine gO ?_
 refine trimP_a l hl ?_
 generalize hd : stripF l = d at *
 by_cases h0 : d = []
 ·rw [if_pos (.inl h0)] at hnf
  rw [hnf] at hk
  simp (disch := first | omega | (simp only [go_sem]; try omega)) only [go_sem, tB_nil, h0]
  exact Ret.same lRf (hk _ sMp)
 have h0' : ¬ tB d = ⟨#[]⟩ := fun e => h0 (tB_nil.1 e)
 by_cases h1 : m < d.length
 ·rw [if_pos (.inr h1)] at hnf
  rw [hnf] at hk
  refine gO3 h0' hsd h1 ?_
  exact Ret.same lRf (hk _ sMp)
 rw [if_neg (fun e => e.elim h0 h1)] at hnf
 refine gO3 h0' hsd h1 ?_
 refine only_a (tB d) ⟨#[48, 49, 50, 51, 52, 53, 54, 55, 56, 57]⟩ oMg ?_
 rw [onlyD]
 by_cases h2 : digB d = true
 ·rw [if_pos h2] at hnf
  obtain ⟨n, hn, hb1, hb2⟩ := atoi_bd (l := l) (by rw [hd]; exact h2) (by rw [hd]; exact h0) (by rw [hd]; omega)
  have hback := itoa_back (l := l) (by rw [hd]; exact h2) (by rw [hd]; exact h0) hn
  rw [hd] at hback
  refine gO1 h2 ?_
  refine atoi_a (tB l) n oMg (by rw [show (tB l).data.toList = l from tL_tB l]; exact hn) ?_
  refine gO ?_
  refine itoa_a n oMg oMg ?_
  refine gO ?_
  rw [show (⟨(Lib.itoa n).toArray⟩ : ByteArray) = tB (Lib.itoa n) from rfl]
  by_cases h3 : d.head? = some 48 ∧ (1 < d.length ∨ d.length < l.length)
  ·rw [if_pos h3] at hnf
   rw [hnf] at hk
   rw [show decide (tB (Lib.itoa n) = tB l) = false from decide_eq_false fun e => hback.1 (tB_inj.1 e) h3]
   exact Ret.same lRf (hk _ sMp)
  ·rw [if_neg h3, hn] at hnf
   rw [hnf] at hk
   rw [show decide (tB (Lib.itoa n) = tB l) = true from decide_eq_true (tB_inj.2 (hback.2 h3))]
   exact Ret.same lRf (hk _ sMp)
 ·have h2' : digB d = false := by simpa using h2
  rw [if_neg h2, ite_self] at hnf
  rw [hnf] at hk
  refine gO1 h2' ?_
  exact Ret.same lRf (hk _ sMp)
end Go.Proofs.YtagoolooikpabaaGreatDoor
namespace Go.Proofs.YtagoolooikpabaaGreatDoor
open Go Go.RowKit
set_option maxRecDepth 100000
set_option maxHeartbeats 2000000
variable {H : Hp} {K : AV → Hp → Prop}
theorem digitP_a (c : UInt8) (hk : K (.c (.bool (isDg c))) H) : ACalls Tryz.prog 191 [.c (.int .u8 c.toNat)] H K := by
 have hc := c.toNat_lt
 have e : isDg c = decide ((48 : Int) ≤ c.toNat ∧ (c.toNat : Int) ≤ 57) := by unfold isDg; congr 1; rw [eq_iff_iff]; omega
 rw [e] at hk
 refine acalls Tryz.func191 rfl kRf gT (fun hH => ?_)
 refine gO ?_
 repeat' (first | ((first | refine acond_d ?_ ?_ | refine acond_b ?_ ?_ | refine ag_d ?_ ?_ | refine ag_n ?_ ?_ | refine ag_bt ?_ ?_ | refine ag_bf ?_ ?_) <;> intro c <;> try refine gO1 c ?_) | ((first | refine w_draw kRf dKn ?_) <;> try refine gO ?_))
 all_goals (first | refine Ret.sameE lRf (by assumption) ?_ | refine Ret.dropE (by assumption) lRf (by assumption) oKs ?_) <;> grind
theorem smallP_a (c : UInt8) (hk : K (.c (.bool (isSm c))) H) : ACalls Tryz.prog 192 [.c (.int .u8 c.toNat)] H K := by
 have hc := c.toNat_lt
 have e : isSm c = decide ((97 : Int) ≤ c.toNat ∧ (c.toNat : Int) ≤ 122) := by unfold isSm; congr 1; rw [eq_iff_iff]; omega
 rw [e] at hk
 refine acalls Tryz.func192 rfl kRf gT (fun hH => ?_)
 refine gO ?_
 repeat' (first | ((first | refine acond_d ?_ ?_ | refine acond_b ?_ ?_ | refine ag_d ?_ ?_ | refine ag_n ?_ ?_ | refine ag_bt ?_ ?_ | refine ag_bf ?_ ?_) <;> intro c <;> try refine gO1 c ?_) | ((first | refine w_draw kRf dKn ?_) <;> try refine gO ?_))
 all_goals (first | refine Ret.sameE lRf (by assumption) ?_ | refine Ret.dropE (by assumption) lRf (by assumption) oKs ?_) <;> grind
def prK (t : Tok) : Int := if t.k = 1 then (if 9 < t.x.length ∨ (1 < t.x.length ∧ t.x.head? = some 48) then 4 else 1) else if t.k = 2 then (if 40 < t.x.length then 4 else 2) else t.k
def prT (t : Tok) : List AC := [.int .i64 (prK t), .int .i64 t.o, .str (tB t.x)]
theorem tw_at (p : UInt8 → Bool) : ∀ (r : List UInt8) (m : Nat), (∀ i (h : i < r.length), i < m → p r[i] = true) → m ≤ r.length → (∀ h : m < r.length, p r[m] = false) → r.takeWhile p = r.take m
 | [], m, _, _, _ => by simp
 | x :: r, 0, _, _, h3 => by
  have := h3 sMp
  rw [List.takeWhile_cons, if_neg (by simpa using this)]
  rfl
 | x :: r, m + 1, h1, h2, h3 => by
  have hx : p x = true := h1 0 sMp oMg
  rw [List.takeWhile_cons, if_pos hx, List.take_succ_cons, tw_at p r m (fun i h hi => by
   have := h1 (i + 1) (by simpa using h) oMg
   simpa using this) (by simpa using h2) (fun h => by
   have := h3 (by simpa using h)
   simpa using this)]
theorem byte_at {l : List UInt8} {i : Nat} (h : i < l.length) : byteAt (tB l) i = (l[i].toNat : Int) := by rw [byteAt_tB, getD_in h]
theorem sgn_ix (c : UInt8) : decide (0 ≤ Lib.indexByte sgnL c) = decide (c ∈ sgnL) := by
 have key : ∀ c : Fin 256, decide (0 ≤ Lib.indexByte sgnL c.val.toUInt8) = decide (c.val.toUInt8 ∈ sgnL) := by decide +kernel
 have := key ⟨c.toNat, c.toNat_lt⟩
 simpa using this
theorem toNat_32 (c : UInt8) : (c.toNat : Int) = 32 ↔ c = 32 := by
 constructor
 ·intro h
  apply UInt8.toNat_inj.1
  have : (32 : UInt8).toNat = 32 := rfl
  omega
 ·intro h; rw [h]; rfl
theorem toNat_48 (c : UInt8) : (c.toNat : Int) = 48 ↔ c = 48 := by
 constructor
 ·intro h
  apply UInt8.toNat_inj.1
  have : (48 : UInt8).toNat = 48 := rfl
  omega
 ·intro h; rw [h]; rfl
theorem scan_a (l : List UInt8) (o : Nat) (ho : o ≤ l.length) (hl : l.length ≤ 1000) (hk : ∀ t T, tokF (l.drop o) o = t :: T → K (.agg (prT t)) H) : ACalls Tryz.prog 152 [(.c (.str (tB l))), (.c (.int .i64 o))] H K := by
 have hsz := tB_size l
 refine acalls Tryz.func152 rfl kRf gT (fun hH => ?_)
 refine gO ?_
 refine AWp.loop (H.length + 1) [0, 4] [1] (fun (k : Nat) => o ≤ k ∧ k ≤ l.length ∧ tokF (l.drop k) k = tokF (l.drop o) o) (fun (k : Nat) => [(1, (.c (.int .i64 k)))]) (fun (k : Nat) => H ++ [.row 214 3 [[.int .i64 0, .int .i64 0, .str ⟨#[]⟩]] true]) (fun (k : Nat) => l.length - k) kRf (fun _ => rfl) kRf sOo sOm kl ?_ (fun k q _ _ => ?_)
 ·exact Next.mk o ⟨by omega, by omega, rfl⟩ wk
 obtain ⟨q1, q2, q3⟩ := q
 by_cases hlt : k < l.length
 ·have hd : l.drop k = l[k] :: l.drop (k + 1) := List.drop_eq_getElem_cons hlt
  have hb := byte_at hlt
  have hq := tokF_cons l[k] (l.drop (k + 1)) k
  rw [← hd, q3] at hq
  obtain ⟨c, hc⟩ : ∃ c, c = l[k] := ⟨_, rfl⟩
  rw [← hc] at hb hq hd
  have hcb := c.toNat_lt
  by_cases h32 : c = 32
  ·have h32' : (c.toNat : Int) = 32 := (toNat_32 c).2 h32
   rw [if_pos h32] at hq
   refine gO4 hsz hlt hb h32' ?_
   exact Next.mk (k + 1) ⟨⟨by omega, by omega, hq.symm⟩, by omega⟩ wk
  ·have h32' : ¬ (c.toNat : Int) = 32 := fun h => h32 ((toNat_32 c).1 h)
   have hkl : ¬ (k : Int) = (l.length : Int) := by omega
   rw [if_neg h32] at hq
   simp (disch := first | omega | (simp only [go_sem]; try omega)) only [go_sem, hsz, hlt, hb, h32', hkl]
   refine digitP_a c ?_
   by_cases hdg : isDg c = true
   ·rw [if_pos hdg] at hq
    refine gO1 hdg ?_
    refine AWp.loop (H.length + 1) [0, 1, 4, 6] [5] (fun (e : Nat) => k + 1 ≤ e ∧ e ≤ l.length ∧ ∀ i (h : i < l.length), k < i → i < e → isDg l[i] = true) (fun (e : Nat) => [(5, (.c (.int .i64 e)))]) (fun (e : Nat) => H ++ [.row 214 3 [[.int .i64 0, .int .i64 0, .str ⟨#[]⟩]] true]) (fun (e : Nat) => l.length - e) kRf (fun _ => rfl) kRf sOo sOm kl ?_ (fun e q _ _ => ?_)
    ·refine Next.mk (k + 1) ⟨by omega, by omega, fun i h h1 h2 => by omega⟩ ?_
     exact wk
    obtain ⟨e1, e2, e3⟩ := q
    by_cases hgo : ∃ h : e < l.length, isDg l[e] = true
    ·obtain ⟨hle, hde⟩ := hgo
     have hbe := byte_at hle
     refine gO3 hsz hle hbe ?_
     refine digitP_a l[e] ?_
     refine gO1 hde ?_
     refine Next.mk (e + 1) ⟨⟨by omega, by omega, fun i h h1 h2 => ?_⟩, by omega⟩ wk
     rcases Nat.lt_or_ge i e with h3 | h3
     ·exact e3 i h h1 h3
     ·obtain rfl : i = e := by omega
      exact hde
    ·have htw : (l.drop (k + 1)).takeWhile isDg = (l.drop (k + 1)).take (e - (k + 1)) := tw_at isDg _ _ (fun i h h1 => by
      rw [List.getElem_drop]
      exact e3 _ _ oMg oMg) (by rw [List.length_drop]; omega) (fun h => by
      rw [List.length_drop] at h
      rw [List.getElem_drop]
      have h5 : e < l.length := by omega
      have h6 : isDg l[e] = false := by
       cases h7 : isDg l[e] with
       | false => rfl
       | true => exact absurd ⟨h5, h7⟩ hgo
      rw [← h6]
      congr 2
      omega)
     have hx : (l.drop k).take (e - k) = c :: (l.drop (k + 1)).takeWhile isDg := by
      rw [htw, hd, show e - k = (e - (k + 1)) + 1 by omega, List.take_succ_cons]
     have hsl : (tB l).extract k e = tB (c :: (l.drop (k + 1)).takeWhile isDg) := by rw [ext_tB, hx]
     have hkk := hk _ _ hq
     have hXs := tB_size (c :: (l.drop (k + 1)).takeWhile isDg)
     have hXh : (c :: (l.drop (k + 1)).takeWhile isDg).head? = some c := rfl
     generalize c :: (l.drop (k + 1)).takeWhile isDg = X at *
     have hke : (k : Int) ≤ (e : Int) := by omega
     have hel : (e : Int) ≤ (l.length : Int) := by omega
     have hfin : ∀ (v : Int) (G : Hp), prK ⟨1, X, k⟩ = v → Ret H.length (.agg [.int .i64 v, .int .i64 k, .str (tB X)]) (H ++ G) K := fun v G hv => by
      unfold prT at hkk
      rw [hv] at hkk
      exact Ret.drop hH lRf oKs hkk
     rcases Nat.lt_or_ge e l.length with hle | hle
     case' inl =>
      have hbe := byte_at hle
      have hde : isDg l[e] = false := by
       cases h7 : isDg l[e] with
       | false => rfl
       | true => exact absurd ⟨hle, h7⟩ hgo
      refine gO3 hsz hle hbe ?_
      refine digitP_a l[e] ?_
     case' inr =>
      have hde : True := trivial
      have hle2 : ¬ e < l.length := by omega
      refine gO2 hsz hle2 ?_
     all_goals
      by_cases h9 : 9 < X.length
      ·simp (disch := first | omega | (simp only [go_sem]; try omega)) only [go_sem, hde, hsz, hsl, hke, hel, hXs, h9]
       exact hfin 4 _ (by unfold prK; rw [if_pos rfl, if_pos (.inl h9)])
      by_cases h1 : 1 < X.length
      ·by_cases h48 : c = 48
       ·have h48' : (c.toNat : Int) = 48 := (toNat_48 c).2 h48
        simp (disch := first | omega | (simp only [go_sem]; try omega)) only [go_sem, hde, hsz, hsl, hke, hel, hXs, h9, h1, h48']
        exact hfin 4 _ (by unfold prK; rw [if_pos rfl, if_pos (.inr ⟨h1, by rw [hXh, h48]⟩)])
       ·have h48' : ¬ (c.toNat : Int) = 48 := fun h => h48 ((toNat_48 c).1 h)
        simp (disch := first | omega | (simp only [go_sem]; try omega)) only [go_sem, hde, hsz, hsl, hke, hel, hXs, h9, h1, h48']
        refine hfin 1 _ ?_
        unfold prK
        rw [if_pos rfl, if_neg]
        rintro (h | ⟨_, h⟩)
        ·exact h9 h
        ·rw [hXh] at h
         exact h48 (Option.some.inj h)
      ·simp (disch := first | omega | (simp only [go_sem]; try omega)) only [go_sem, hde, hsz, hsl, hke, hel, hXs, h9, h1]
       refine hfin 1 _ ?_
       unfold prK
       rw [if_pos rfl, if_neg]
       rintro (h | ⟨h, _⟩)
       ·exact h9 h
       ·exact h1 h
   ·have hdg' : isDg c = false := by simpa using hdg
    rw [if_neg hdg] at hq
    refine gO1 hdg' ?_
    refine smallP_a c ?_
    by_cases hsm : isSm c = true
    ·rw [if_pos hsm] at hq
     refine gO1 hsm ?_
     refine AWp.loop (H.length + 1) [0, 1, 4] [5] (fun (e : Nat) => k + 1 ≤ e ∧ e ≤ l.length ∧ ∀ i (h : i < l.length), k < i → i < e → isWd l[i] = true) (fun (e : Nat) => [(5, (.c (.int .i64 e)))]) (fun (e : Nat) => H ++ [.row 214 3 [[.int .i64 0, .int .i64 0, .str ⟨#[]⟩]] true]) (fun (e : Nat) => l.length - e) kRf (fun _ => rfl) kRf sOo sOm kl ?_ (fun e q _ _ => ?_)
     ·refine Next.mk (k + 1) ⟨by omega, by omega, fun i h h1 h2 => by omega⟩ ?_
      exact wk
     obtain ⟨e1, e2, e3⟩ := q
     by_cases hgo : ∃ h : e < l.length, isWd l[e] = true
     ·obtain ⟨hle, hde⟩ := hgo
      have hbe := byte_at hle
      have hnx : (k + 1 ≤ e + 1 ∧ e + 1 ≤ l.length ∧ ∀ i (h : i < l.length), k < i → i < e + 1 → isWd l[i] = true) ∧ l.length - (e + 1) < l.length - e := by
       refine ⟨⟨by omega, by omega, fun i h h1 h2 => ?_⟩, by omega⟩
       rcases Nat.lt_or_ge i e with h3 | h3
       ·exact e3 i h h1 h3
       ·obtain rfl : i = e := by omega
        exact hde
      refine gO3 hsz hle hbe ?_
      refine digitP_a l[e] ?_
      unfold isWd at hde
      generalize l[e] = b at *
      cases h1 : isDg b with
      | true =>
       refine gO1 hbe ?_
       exact Next.mk (e + 1) hnx wk
      | false =>
       refine gO1 hbe ?_
       refine smallP_a b ?_
       cases h2 : isSm b with
       | true =>
        refine gO1 hbe ?_
        exact Next.mk (e + 1) hnx wk
       | false =>
        rw [h1, h2] at hde
        have h95 : (b.toNat : Int) = 95 := by
         have : b.toNat = 95 := by simpa using hde
         omega
        refine gO2 h95 hbe ?_
        exact Next.mk (e + 1) hnx wk
     ·have htw : (l.drop (k + 1)).takeWhile isWd = (l.drop (k + 1)).take (e - (k + 1)) := tw_at isWd _ _ (fun i h h1 => by
       rw [List.getElem_drop]
       exact e3 _ _ oMg oMg) (by rw [List.length_drop]; omega) (fun h => by
       rw [List.length_drop] at h
       rw [List.getElem_drop]
       have h5 : e < l.length := by omega
       have h6 : isWd l[e] = false := by
        cases h7 : isWd l[e] with
        | false => rfl
        | true => exact absurd ⟨h5, h7⟩ hgo
       rw [← h6]
       congr 2
       omega)
      have hx : (l.drop k).take (e - k) = c :: (l.drop (k + 1)).takeWhile isWd := by
       rw [htw, hd, show e - k = (e - (k + 1)) + 1 by omega, List.take_succ_cons]
      have hsl : (tB l).extract k e = tB (c :: (l.drop (k + 1)).takeWhile isWd) := by rw [ext_tB, hx]
      have hkk := hk _ _ hq
      have hXl : (c :: (l.drop (k + 1)).takeWhile isWd).length = e - k := by rw [← hx, List.length_take, List.length_drop]; omega
      generalize c :: (l.drop (k + 1)).takeWhile isWd = X at *
      have hke : (k : Int) ≤ (e : Int) := by omega
      have hel : (e : Int) ≤ (l.length : Int) := by omega
      have hfin : ∀ (v : Int) (G : Hp), prK ⟨2, X, k⟩ = v → Ret H.length (.agg [.int .i64 v, .int .i64 k, .str (tB X)]) (H ++ G) K := fun v G hv => by
       unfold prT at hkk
       rw [hv] at hkk
       exact Ret.drop hH lRf oKs hkk
      have hend : ∀ G : Hp, (40 < X.length → Ret H.length (.agg [.int .i64 4, .int .i64 k, .str (tB X)]) (H ++ G) K) ∧ (¬ 40 < X.length → Ret H.length (.agg [.int .i64 2, .int .i64 k, .str (tB X)]) (H ++ G) K) := fun G =>
       ⟨fun h => hfin 4 G (by unfold prK; rw [if_neg (show ¬ (2 : Nat) = 1 by decide), if_pos rfl, if_pos h]), fun h => hfin 2 G (by unfold prK; rw [if_neg (show ¬ (2 : Nat) = 1 by decide), if_pos rfl, if_neg h])⟩
      by_cases h40 : 40 < X.length
      ·have h40' : (40 : Int) < (e : Int) - (k : Int) := by omega
       have hend := fun G => (hend G).1 h40
       rcases Nat.lt_or_ge e l.length with hle | hle
       ·have hbe := byte_at hle
        have hde : isWd l[e] = false := by
         cases h7 : isWd l[e] with
         | false => rfl
         | true => exact absurd ⟨hle, h7⟩ hgo
        refine gO3 hsz hle hbe ?_
        refine digitP_a l[e] ?_
        unfold isWd at hde
        generalize l[e] = b at *
        rw [Bool.or_eq_false_iff, Bool.or_eq_false_iff, decide_eq_false_iff_not] at hde
        have h95 : ¬ (b.toNat : Int) = 95 := by omega
        refine gO2 hde.1.1 hbe ?_
        refine smallP_a b ?_
        simp (disch := first | omega | (simp only [go_sem]; try omega)) only [go_sem, hde.1.2, hbe, h95, hsz, hsl, hke, hel, h40']
        exact hend _
       ·have hle2 : ¬ e < l.length := by omega
        simp (disch := first | omega | (simp only [go_sem]; try omega)) only [go_sem, hsz, hle2, hsl, hke, hel, h40']
        exact hend _
      ·have h40' : ¬ (40 : Int) < (e : Int) - (k : Int) := by omega
       have hend := fun G => (hend G).2 h40
       rcases Nat.lt_or_ge e l.length with hle | hle
       ·have hbe := byte_at hle
        have hde : isWd l[e] = false := by
         cases h7 : isWd l[e] with
         | false => rfl
         | true => exact absurd ⟨hle, h7⟩ hgo
        refine gO3 hsz hle hbe ?_
        refine digitP_a l[e] ?_
        unfold isWd at hde
        generalize l[e] = b at *
        rw [Bool.or_eq_false_iff, Bool.or_eq_false_iff, decide_eq_false_iff_not] at hde
        have h95 : ¬ (b.toNat : Int) = 95 := by omega
        refine gO2 hde.1.1 hbe ?_
        refine smallP_a b ?_
        simp (disch := first | omega | (simp only [go_sem]; try omega)) only [go_sem, hde.1.2, hbe, h95, hsz, hsl, hke, hel, h40']
        exact hend _
       ·have hle2 : ¬ e < l.length := by omega
        simp (disch := first | omega | (simp only [go_sem]; try omega)) only [go_sem, hsz, hle2, hsl, hke, hel, h40']
        exact hend _
    ·have hsm' : isSm c = false := by simpa using hsm
     rw [if_neg hsm] at hq
     refine gO1 hsm' ?_
     refine indexByte_a _ _ ?_
     refine gO ?_
     rw [show ([40, 41, 44, 64, 43, 45, 42, 47, 60, 61] : List UInt8) = sgnL from rfl, show c.toNat.toUInt8 = c by simp, sgn_ix c]
     have hsl : (tB l).extract k (k + 1) = tB [c] := by
      rw [ext_tB, hd, show k + 1 - k = 1 by omega]
      rfl
     have e1 : ((k : Int) + 1).toNat = k + 1 := by omega
     have hke : (k : Int) ≤ (k : Int) + 1 := by omega
     have hel : (k : Int) + 1 ≤ (l.length : Int) := by omega
     by_cases hsg : c ∈ sgnL
     ·rw [if_pos hsg] at hq
      rw [decide_eq_true hsg]
      have hkk := hk _ _ hq
      simp (disch := first | omega | (simp only [go_sem]; try omega)) only [go_sem, hsz, e1, hsl, hke, hel]
      exact Ret.drop hH lRf oKs hkk
     ·rw [if_neg hsg] at hq
      rw [decide_eq_false hsg]
      have hkk := hk _ _ hq
      simp (disch := first | omega | (simp only [go_sem]; try omega)) only [go_sem, hsz, e1, hsl, hke, hel]
      exact Ret.drop hH lRf oKs hkk
 ·have hkl : k = l.length := by omega
  subst hkl
  rw [List.drop_length, tokF_nil] at q3
  have := hk _ _ q3.symm
  refine gO1 hsz ?_
  exact Ret.drop hH lRf oKs this
end Go.Proofs.YtagoolooikpabaaGreatDoor
