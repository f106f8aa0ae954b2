/- Several texts in one: Package strings at separators of one byte: Count, Index, Split, Cut, CutSuffix, TrimPrefix, and what follows. No condition. -/
import Derived.Test.YtlnfiflbpmicgaaGreatDoorHVTxtA
import Derived.Test.YtlnfiflbpmicgaaGreatDoorHVSmp
set_option linter.all false
namespace Go.Proofs.YtlnfiflbpmicgaaGreatDoor
open Go Go.RowKit
set_option maxRecDepth 100000
set_option maxHeartbeats 2000000
variable {H : Hp} {K : AV → Hp → Prop}
def tB (l : List UInt8) : ByteArray := ⟨l.toArray⟩
def tL (s : ByteArray) : List UInt8 := s.data.toList
theorem tL_tB (l : List UInt8) : tL (tB l) = l := by simp [tL, tB]
theorem tL_len (s : ByteArray) : (tL s).length = s.size := rfl
theorem tB_size (l : List UInt8) : (tB l).size = l.length := by rw [← tL_len, tL_tB]
theorem tL_inj {a b : ByteArray} (h : tL a = tL b) : a = b := data_inj h
theorem tL_ext (s : ByteArray) (a b : Nat) : tL (s.extract a b) = ((tL s).drop a).take (b - a) := by
  obtain ⟨⟨x⟩⟩ := s
  simp [tL, ByteArray.extract, ByteArray.copySlice, List.extract_eq_take_drop, List.take_drop]
theorem ext_tB (l : List UInt8) (a b : Nat) : (tB l).extract a b = tB ((l.drop a).take (b - a)) := by
  apply tL_inj
  rw [tL_ext, tL_tB, tL_tB]
theorem tB_inj {a b : List UInt8} : tB a = tB b ↔ a = b := ⟨fun h => by rw [← tL_tB a, h, tL_tB], fun h => by rw [h]⟩
theorem ixB_at {c : UInt8} : ∀ {a : List UInt8} (b : List UInt8), c ∉ a → Lib.indexByte (a ++ c :: b) c = a.length
  | [], b, _ => by
    show Lib.indexByte (c :: b) c = _
    unfold Lib.indexByte
    rw [if_pos (by simp)]
    rfl
  | x :: t, b, h => by
    have h1 : x ≠ c := fun e => h (by simp [e])
    have ih := ixB_at (a := t) b (fun e => h (List.mem_cons_of_mem _ e))
    rw [List.cons_append]
    unfold Lib.indexByte
    rw [if_neg (by simpa using h1), ih, if_neg (by simp)]
    simp
theorem u8_back (c : UInt8) : ((c.toNat : Int).toNat).toUInt8 = c := by simp
theorem index1_a (s : ByteArray) (c : UInt8) (hk : K (.c (.int .i64 (Lib.indexByte (tL s) c))) H) : ACalls Tryz.prog 170 [(.c (.str s)), (.c (.str (tB [c])))] H K := by
  have e1 : (tB [c]).size = 1 := rfl
  have e2 : byteAt (tB [c]) 0 = (c.toNat : Int) := rfl
  have key : ∀ (K : AV → Hp → Prop), K (.c (.int .i64 (Lib.indexByte (tL s) c))) H → ACalls Tryz.prog 231 [(.c (.str s)), .c (.int .u8 (c.toNat : Int))] H K := by
    intro K hk
    refine acalls Tryz.func231 rfl (by kernel_rfl) (by simp (disch := first | omega | (simp only [go_sem]; try omega)) only [go_sem]) (fun hH => ?_)
    simp (disch := first | omega | (simp only [go_sem]; try omega)) only [go_sem]
    refine indexByteX _ ext_indexByte s _ ?_
    rw [u8_back]
    simp (disch := first | omega | (simp only [go_sem]; try omega)) only [go_sem]
    exact Ret.same (Nat.le_refl _) hk
  refine acalls Tryz.func170 rfl (by kernel_rfl) (by simp (disch := first | omega | (simp only [go_sem]; try omega)) only [go_sem]) (fun hH => ?_)
  simp (disch := first | omega | (simp only [go_sem]; try omega)) only [go_sem, e1, e2]
  by_cases hs : tB [c] = s
  · have e3 : Lib.indexByte (tL s) c = 0 := by
      rw [← hs, tL_tB]
      exact ixB_at (a := []) [] (by simp)
    rw [e3] at hk
    simp (disch := first | omega | (simp only [go_sem]; try omega)) only [go_sem, hs]
    exact Ret.same (Nat.le_refl _) hk
  simp (disch := first | omega | (simp only [go_sem]; try omega)) only [go_sem, hs]
  refine key _ ?_
  simp (disch := first | omega | (simp only [go_sem]; try omega)) only [go_sem]
  exact Ret.same (Nat.le_refl _) hk
theorem indexS_a (s : ByteArray) (c : UInt8) (hk : K (.c (.int .i64 (Lib.indexByte (tL s) c))) H) : ACalls Tryz.prog 90 [(.c (.str s)), (.c (.str (tB [c])))] H K := by
  refine acalls Tryz.func90 rfl (by kernel_rfl) (by simp (disch := first | omega | (simp only [go_sem]; try omega)) only [go_sem]) (fun hH => ?_)
  simp (disch := first | omega | (simp only [go_sem]; try omega)) only [go_sem]
  refine index1_a s c ?_
  simp (disch := first | omega | (simp only [go_sem]; try omega)) only [go_sem]
  exact Ret.same (Nat.le_refl _) hk
theorem hasP_a (l : List UInt8) (c : UInt8) (hl : l.length ≤ 1000000) (hk : K (.c (.bool (decide (l.head? = some c)))) H) : ACalls Tryz.prog 203 [(.c (.str (tB l))), (.c (.str (tB [c])))] H K := by
  have e1 : (tB [c]).size = 1 := rfl
  have hsz := tB_size l
  cases l with
  | nil =>
    refine acalls Tryz.func203 rfl (by kernel_rfl) (by simp (disch := first | omega | (simp only [go_sem]; try omega)) only [go_sem]) (fun hH => ?_)
    simp (disch := first | omega | (simp only [go_sem]; try omega)) only [go_sem, e1, hsz]
    exact Ret.same (Nat.le_refl _) hk
  | cons x t =>
    have h1 : (tB (x :: t)).extract 0 1 = tB [x] := by rw [ext_tB]; rfl
    have h2 : decide (tB [x] = tB [c]) = decide ((x :: t).head? = some c) := by
      rw [decide_eq_decide, tB_inj]
      simp
    refine acalls Tryz.func203 rfl (by kernel_rfl) (by simp (disch := first | omega | (simp only [go_sem]; try omega)) only [go_sem]) (fun hH => ?_)
    simp (disch := first | omega | (simp only [go_sem]; try omega)) only [go_sem, e1, hsz, h1]
    rw [h2]
    exact Ret.same (Nat.le_refl _) hk
theorem trimP_a (l : List UInt8) (hl : l.length ≤ 1000000) (hk : K (.c (.str (tB (stripF l)))) H) : ACalls Tryz.prog 328 [(.c (.str (tB l))), (.c (.str (tB [45])))] H K := by
  have e1 : (tB [45]).size = 1 := rfl
  have hsz := tB_size l
  have key : ∀ (K : AV → Hp → Prop), K (.c (.str (tB (stripF l)))) H → ACalls Tryz.prog 344 [(.c (.str (tB l))), (.c (.str (tB [45])))] H K := by
    intro K hk
    unfold stripF at hk
    refine acalls Tryz.func344 rfl (by kernel_rfl) (by simp (disch := first | omega | (simp only [go_sem]; try omega)) only [go_sem]) (fun hH => ?_)
    simp (disch := first | omega | (simp only [go_sem]; try omega)) only [go_sem]
    refine hasP_a l 45 hl ?_
    by_cases h : l.head? = some 45
    · obtain ⟨t, rfl⟩ : ∃ t, l = 45 :: t := by
        cases l with
        | nil => cases h
        | cons x t => simp only [List.head?_cons, Option.some.injEq] at h; exact ⟨t, by rw [h]⟩
      rw [if_pos h] at hk
      have h1 : (tB (45 :: t)).extract 1 (tB (45 :: t)).size = tB t := by rw [ext_tB, hsz]; simp
      rw [decide_eq_true h]
      rw [hsz, List.length_cons] at h1
      simp (disch := first | omega | (simp only [go_sem]; try omega)) only [go_sem, e1, hsz]
      rw [h1]
      exact Ret.same (Nat.le_refl _) hk
    · rw [if_neg h] at hk
      rw [decide_eq_false h]
      simp (disch := first | omega | (simp only [go_sem]; try omega)) only [go_sem]
      exact Ret.same (Nat.le_refl _) hk
  refine acalls Tryz.func328 rfl (by kernel_rfl) (by simp (disch := first | omega | (simp only [go_sem]; try omega)) only [go_sem]) (fun hH => ?_)
  simp (disch := first | omega | (simp only [go_sem]; try omega)) only [go_sem]
  refine key _ ?_
  simp (disch := first | omega | (simp only [go_sem]; try omega)) only [go_sem]
  exact Ret.same (Nat.le_refl _) hk
end Go.Proofs.YtlnfiflbpmicgaaGreatDoor
namespace Go.Proofs.YtlnfiflbpmicgaaGreatDoor
open Go Go.RowKit
set_option maxRecDepth 100000
set_option maxHeartbeats 2000000
variable {H : Hp} {K : AV → Hp → Prop}
theorem changedG_a (W : ByteArray) (n : Nat) (hw : W.size = n) (hn : 0 < n ∧ n ≤ 100) (hbd : ∀ i, i < n → 0 ≤ byteAt W i ∧ byteAt W i < 128) (s : Nat) (zs : List Int) (j : Int) (t : ByteArray) (hs : Str H s zs j) (hj : j ≤ 1099000000000) (ht : t.size ≤ 100000)
    (hk : ∀ (t' : ByteArray) (j' : Int), j ≤ j' → j' ≤ j + 3 → t'.size ≤ t.size + n → K (.c (.str t')) (H.set s (strO zs j'))) : ACalls Tryz.prog 55 [.c (.ptr (some (s, 0, 0))), (.c (.str t)), (.c (.str W))] H K := by
  have hlt := hs.lt
  have hpos := hs.pos
  have hne : H.length ≠ s := by omega
  have hw0 : ¬ W = ⟨#[]⟩ := fun h => by rw [h] at hw; have : (⟨#[]⟩ : ByteArray).size = 0 := rfl; omega
  by_cases h0 : t = ⟨#[]⟩
  · subst h0
    refine acalls Tryz.func55 rfl (by kernel_rfl) (by simp (disch := first | omega | (simp only [go_sem]; try omega)) only [go_sem]) (fun hH => ?_)
    simp (disch := first | omega | (simp only [go_sem]; try omega)) only [go_sem, hw0]
    have := hk W j (Int.le_refl _) (by omega) (by rw [hw]; omega)
    rw [set_same hs.2.2.2] at this
    exact Ret.same (Nat.le_refl _) this
  have hts : 0 < t.size := by have := mt size_zero.2 h0; omega
  refine acalls Tryz.func55 rfl (by kernel_rfl) (by simp (disch := first | omega | (simp only [go_sem]; try omega)) only [go_sem]) (fun hH => ?_)
  simp (disch := first | omega | (simp only [go_sem]; try omega)) only [go_sem, h0, hw0]
  refine next_a s zs j t.size (by first | exact hs | exact hs.app _ | exact hs.set (by omega) (by omega) | exact (hs.set (by omega) (by omega)).app _) (by omega) (by omega) (fun r h1 h2 => ?_)
  simp (disch := first | omega | (simp only [go_sem]; try omega)) only [go_sem, hw]
  refine next_a s zs (j + 1) n (by first | exact hs | exact hs.app _ | exact hs.set (by omega) (by omega) | exact (hs.set (by omega) (by omega)).app _) (by omega) (by omega) (fun q h3 h4 => ?_)
  have hqb := hbd q.toNat (by omega)
  have hqw : q < (n : Int) := h4
  obtain ⟨b, hb⟩ : ∃ b : Int, b = byteAt W q.toNat := ⟨_, rfl⟩
  rw [← hb] at hqb
  have hwb : IntKind.i32.wrap b = b := by rw [IntKind.wrap_i32]; omega
  simp (disch := first | omega | (simp only [go_sem]; try omega)) only [go_sem, hw, ← hb]
  refine next_a s zs (j + 1 + 1) 3 (by first | exact hs | exact hs.app _ | exact hs.set (by omega) (by omega) | exact (hs.set (by omega) (by omega)).app _) (by omega) (by omega) (fun d h5 h6 => ?_)
  have e1 : ((r : Int) + 1).toNat = r.toNat + 1 := by omega
  have hsz1 : (t.extract 0 r.toNat).size = r.toNat := by rw [ByteArray.size_extract]; omega
  have hsz2 : (t.extract r.toNat t.size).size = t.size - r.toNat := by rw [ByteArray.size_extract]; omega
  have hsz3 : (t.extract (r.toNat + 1) t.size).size = t.size - (r.toNat + 1) := by rw [ByteArray.size_extract]; omega
  have hone : (#[UInt8.ofNat b.toNat] : Array UInt8).size = 1 := rfl
  have hone2 : (⟨#[UInt8.ofNat b.toNat]⟩ : ByteArray).size = 1 := rfl
  have hfin : ∀ t' : ByteArray, t'.size ≤ t.size + 1 → Ret H.length (.c (.str t')) (H.set s (strO zs (j + 1 + 1 + 1))) K := fun t' h => Ret.same (by simp) (hk t' _ (by omega) (by omega) (by omega))
  have hd : d = 0 ∨ d = 1 ∨ d = 2 := by omega
  rcases hd with rfl | rfl | rfl
  · simp (disch := first | omega | (simp only [go_sem]; try omega)) only [go_sem]
    refine w_draw (by kernel_rfl) (by decide +kernel) ?_
    simp (disch := first | omega | (simp only [go_sem]; try omega)) only [go_sem, hwb, e1, hsz1, hsz2, hsz3, ByteArray.size_append, hone]
    refine hfin _ ?_
    simp only [ByteArray.size_append, hone2, hsz1, hsz2, hsz3]
    omega
  · simp (disch := first | omega | (simp only [go_sem]; try omega)) only [go_sem]
    refine w_draw (by kernel_rfl) (by decide +kernel) ?_
    simp (disch := first | omega | (simp only [go_sem]; try omega)) only [go_sem, hwb, e1, hsz1, hsz2, hsz3, ByteArray.size_append, hone]
    refine hfin _ ?_
    simp only [ByteArray.size_append, hone2, hsz1, hsz2, hsz3]
    omega
  · simp (disch := first | omega | (simp only [go_sem]; try omega)) only [go_sem]
    refine w_draw (by kernel_rfl) (by decide +kernel) ?_
    simp (disch := first | omega | (simp only [go_sem]; try omega)) only [go_sem, e1, hsz1, hsz2, hsz3, ByteArray.size_append]
    refine hfin _ ?_
    simp only [ByteArray.size_append, hsz1, hsz3]
    omega
end Go.Proofs.YtlnfiflbpmicgaaGreatDoor
namespace Go.Proofs.YtlnfiflbpmicgaaGreatDoor
open Go Go.RowKit
set_option maxRecDepth 100000
set_option maxHeartbeats 2000000
variable {H : Hp} {K : AV → Hp → Prop}
theorem byteAt_tB (l : List UInt8) (i : Nat) : byteAt (tB l) i = ((l.getD i 0).toNat : Int) := by
  show (((tL (tB l)).getD i 0).toNat : Int) = _
  rw [tL_tB]
theorem dig_iff (b : UInt8) : (Lib.digitVal b).isSome = decide (48 ≤ b.toNat ∧ b.toNat ≤ 57) := by
  unfold Lib.digitVal
  split <;> simp_all <;> omega
theorem getD_in {l : List UInt8} {i : Nat} (h : i < l.length) : l.getD i 0 = l[i] := by
  rw [List.getD_eq_getElem?_getD, List.getElem?_eq_getElem h, Option.getD_some]
theorem digB_iff (d : List UInt8) : digB d = true ↔ ∀ i, i < d.length → 48 ≤ byteAt (tB d) i ∧ byteAt (tB d) i ≤ 57 := by
  unfold digB
  rw [List.all_eq_true]
  constructor
  · intro h i hi
    have := h _ (List.getElem_mem hi)
    rw [dig_iff, decide_eq_true_eq] at this
    rw [byteAt_tB, getD_in hi]
    omega
  · intro h b hb
    obtain ⟨i, hi, rfl⟩ := List.mem_iff_getElem.1 hb
    have := h i hi
    rw [byteAt_tB, getD_in hi] at this
    rw [dig_iff, decide_eq_true_eq]
    omega
theorem strip_le (l : List UInt8) : (stripF l).length ≤ l.length ∧ l.length ≤ (stripF l).length + 1 := by
  unfold stripF
  split
  · rw [List.length_tail]; omega
  · omega
theorem tB_nil {l : List UInt8} : tB l = ⟨#[]⟩ ↔ l = [] := by
  rw [size_zero, tB_size, List.length_eq_zero_iff]
theorem only_digits : ∀ n : Fin 256, (0 ≤ Lib.indexByte [48, 49, 50, 51, 52, 53, 54, 55, 56, 57] n.val.toUInt8 ↔ 48 ≤ n.val ∧ n.val ≤ 57) := by decide
theorem onlyD (d : List UInt8) : decide (onlyB (tB d) ⟨#[48, 49, 50, 51, 52, 53, 54, 55, 56, 57]⟩) = digB d := by
  rw [Bool.eq_iff_iff, decide_eq_true_eq, digB_iff]
  unfold onlyB
  rw [tB_size]
  refine forall_congr' fun i => forall_congr' fun _ => ?_
  have hb := byteAt_bd (tB d) i
  have := only_digits ⟨(byteAt (tB d) i).toNat, by omega⟩
  refine Iff.trans this ?_
  constructor
  · intro h; dsimp only at h; omega
  · intro h; dsimp only; omega
theorem numR_a (l : List UInt8) (m : Nat) (hl : l.length ≤ 1000000) (hm : m ≤ 15) (hk : ∀ v : Int, (∀ n, numF l m = some n → v = n) → K (.tup [(.c (.int .i64 v)), (.c (.bool ((numF l m).isSome)))]) H) : ACalls Tryz.prog 307 [(.c (.str (tB l))), (.c (.int .i64 m))] H K := by
  have hs1 := strip_le l
  have hsz := tB_size l
  have hsd := tB_size (stripF l)
  have hnf := numF_eq l m
  refine acalls Tryz.func307 rfl (by kernel_rfl) (by simp (disch := first | omega | (simp only [go_sem]; try omega)) only [go_sem]) (fun hH => ?_)
  simp (disch := first | omega | (simp only [go_sem]; try omega)) only [go_sem]
  refine trimP_a l hl ?_
  generalize hd : stripF l = d at *
  by_cases h0 : d = []
  · rw [if_pos (.inl h0)] at hnf
    rw [hnf] at hk
    simp (disch := first | omega | (simp only [go_sem]; try omega)) only [go_sem, tB_nil, h0]
    exact Ret.same (Nat.le_refl _) (hk _ (by simp))
  have h0' : ¬ tB d = ⟨#[]⟩ := fun e => h0 (tB_nil.1 e)
  by_cases h1 : m < d.length
  · rw [if_pos (.inr h1)] at hnf
    rw [hnf] at hk
    simp (disch := first | omega | (simp only [go_sem]; try omega)) only [go_sem, h0', hsd, h1]
    exact Ret.same (Nat.le_refl _) (hk _ (by simp))
  rw [if_neg (fun e => e.elim h0 h1)] at hnf
  simp (disch := first | omega | (simp only [go_sem]; try omega)) only [go_sem, h0', hsd, h1]
  refine only_a (tB d) ⟨#[48, 49, 50, 51, 52, 53, 54, 55, 56, 57]⟩ (by omega) ?_
  rw [onlyD]
  by_cases h2 : digB d = true
  · rw [if_pos h2] at hnf
    obtain ⟨n, hn, hb1, hb2⟩ := atoi_bd (l := l) (by rw [hd]; exact h2) (by rw [hd]; exact h0) (by rw [hd]; omega)
    have hback := itoa_back (l := l) (by rw [hd]; exact h2) (by rw [hd]; exact h0) hn
    rw [hd] at hback
    simp (disch := first | omega | (simp only [go_sem]; try omega)) only [go_sem, h2]
    refine atoi_a (tB l) n (by omega) (by rw [show (tB l).data.toList = l from tL_tB l]; exact hn) ?_
    simp (disch := first | omega | (simp only [go_sem]; try omega)) only [go_sem]
    refine itoa_a n (by omega) (by omega) ?_
    simp (disch := first | omega | (simp only [go_sem]; try omega)) only [go_sem]
    rw [show (⟨(Lib.itoa n).toArray⟩ : ByteArray) = tB (Lib.itoa n) from rfl]
    by_cases h3 : d.head? = some 48 ∧ (1 < d.length ∨ d.length < l.length)
    · rw [if_pos h3] at hnf
      rw [hnf] at hk
      rw [show decide (tB (Lib.itoa n) = tB l) = false from decide_eq_false fun e => hback.1 (tB_inj.1 e) h3]
      exact Ret.same (Nat.le_refl _) (hk _ (by simp))
    · rw [if_neg h3, hn] at hnf
      rw [hnf] at hk
      rw [show decide (tB (Lib.itoa n) = tB l) = true from decide_eq_true (tB_inj.2 (hback.2 h3))]
      exact Ret.same (Nat.le_refl _) (hk _ (by simp))
  · have h2' : digB d = false := by simpa using h2
    rw [if_neg h2, ite_self] at hnf
    rw [hnf] at hk
    simp (disch := first | omega | (simp only [go_sem]; try omega)) only [go_sem, h2']
    exact Ret.same (Nat.le_refl _) (hk _ (by simp))
end Go.Proofs.YtlnfiflbpmicgaaGreatDoor
