/- Package strings at separators of one byte: Count, Index, Split, Cut, CutSuffix, TrimPrefix. Condition: strings are no longer than a machine holds. -/
import Derived.Test.YtflklkijfkmeiaaGreatDoorHVTxtA
import Derived.Test.YtflklkijfkmeiaaGreatDoorHVTxtM
import Derived.Test.YtflklkijfkmeiaaGreatDoorHVGA
namespace Go.Proofs.YtflklkijfkmeiaaGreatDoor
open Go Go.RowKit
set_option maxRecDepth 100000
set_option linter.all false
set_option maxHeartbeats 2000000
variable {H : Hp} {K : AV → Hp → Prop}
def tB (l : List UInt8) : ByteArray := ⟨l.toArray⟩
def tL (s : ByteArray) : List UInt8 := s.data.toList
theorem tB_tL (s : ByteArray) : tB (tL s) = s := rfl
theorem tL_tB (l : List UInt8) : tL (tB l) = l := by simp [tL, tB]
theorem tL_len (s : ByteArray) : (tL s).length = s.size := rfl
theorem tB_size (l : List UInt8) : (tB l).size = l.length := by rw [← tL_len, tL_tB]
theorem tL_inj {a b : ByteArray} (h : tL a = tL b) : a = b := data_inj h
theorem tL_ext (s : ByteArray) (a b : Nat) : tL (s.extract a b) = ((tL s).drop a).take (b - a) := by
  obtain ⟨⟨x⟩⟩ := s
  simp [tL, ByteArray.extract, ByteArray.copySlice, List.extract_eq_take_drop, List.take_drop]
theorem ext_tB (l : List UInt8) (a b : Nat) : (tB l).extract a b = tB ((l.drop a).take (b - a)) := by
  apply tL_inj
  rw [tL_ext, tL_tB, tL_tB]
theorem app_tB (a b : List UInt8) : tB a ++ tB b = tB (a ++ b) := by
  apply tL_inj
  simp [tL, tB]
theorem tB_inj {a b : List UInt8} : tB a = tB b ↔ a = b := ⟨fun h => by rw [← tL_tB a, h, tL_tB], fun h => by rw [h]⟩
def encTx (l : List UInt8) : List AC := [.str (tB l)]
attribute [go_sem] encTx
theorem pureL_Tx (l : List (List UInt8)) : pureL (l.map encTx) = true := by simp [pureL, encTx, AC.pure]
theorem ixB_no {c : UInt8} : ∀ {l : List UInt8}, c ∉ l → Lib.indexByte l c = -1
  | [], _ => rfl
  | x :: t, h => by
    have h1 : x ≠ c := fun e => h (by simp [e])
    have ih := ixB_no (l := t) (fun e => h (List.mem_cons_of_mem _ e))
    unfold Lib.indexByte
    rw [if_neg (by simpa using h1), ih]
    rfl
theorem ixB_at {c : UInt8} : ∀ {a : List UInt8} (b : List UInt8), c ∉ a → Lib.indexByte (a ++ c :: b) c = a.length
  | [], b, _ => by
    show Lib.indexByte (c :: b) c = _
    unfold Lib.indexByte
    rw [if_pos (by simp)]
    rfl
  | x :: t, b, h => by
    have h1 : x ≠ c := fun e => h (by simp [e])
    have ih := ixB_at (a := t) b (fun e => h (List.mem_cons_of_mem _ e))
    rw [List.cons_append]
    unfold Lib.indexByte
    rw [if_neg (by simpa using h1), ih, if_neg (by simp)]
    simp
theorem u8_back (c : UInt8) : ((c.toNat : Int).toNat).toUInt8 = c := by simp
theorem count_a (s : ByteArray) (c : UInt8) (hk : K (.c (.int .i64 (Lib.countByte (tL s) c))) H) : ACalls Tryz.prog 268 [(.c (.str s)), (.c (.str (tB [c])))] H K := by
  have e1 : (tB [c]).size = 1 := rfl
  have e2 : byteAt (tB [c]) 0 = (c.toNat : Int) := rfl
  refine acalls Tryz.func268 rfl (by kernel_rfl) (by simp (disch := first | omega | (simp only [go_sem]; first | done | omega)) only [go_sem]) (fun hH => ?_)
  simp (disch := first | omega | (simp only [go_sem]; first | done | omega)) only [go_sem, e1, e2]
  refine countX _ ext_count s (c.toNat : Int) ?_
  rw [u8_back]
  simp (disch := first | omega | (simp only [go_sem]; first | done | omega)) only [go_sem]
  exact Ret.same (Nat.le_refl _) hk
theorem index1_a (s : ByteArray) (c : UInt8) (hk : K (.c (.int .i64 (Lib.indexByte (tL s) c))) H) : ACalls Tryz.prog 177 [(.c (.str s)), (.c (.str (tB [c])))] H K := by
  have e1 : (tB [c]).size = 1 := rfl
  have e2 : byteAt (tB [c]) 0 = (c.toNat : Int) := rfl
  have key : ∀ (K : AV → Hp → Prop), K (.c (.int .i64 (Lib.indexByte (tL s) c))) H → ACalls Tryz.prog 232 [(.c (.str s)), .c (.int .u8 (c.toNat : Int))] H K := by
    intro K hk
    refine acalls Tryz.func232 rfl (by kernel_rfl) (by simp (disch := first | omega | (simp only [go_sem]; first | done | omega)) only [go_sem]) (fun hH => ?_)
    simp (disch := first | omega | (simp only [go_sem]; first | done | omega)) only [go_sem]
    refine indexByteX _ ext_indexByte s _ ?_
    rw [u8_back]
    simp (disch := first | omega | (simp only [go_sem]; first | done | omega)) only [go_sem]
    exact Ret.same (Nat.le_refl _) hk
  refine acalls Tryz.func177 rfl (by kernel_rfl) (by simp (disch := first | omega | (simp only [go_sem]; first | done | omega)) only [go_sem]) (fun hH => ?_)
  simp (disch := first | omega | (simp only [go_sem]; first | done | omega)) only [go_sem, e1, e2]
  by_cases hs : tB [c] = s
  · have e3 : Lib.indexByte (tL s) c = 0 := by
      rw [← hs, tL_tB]
      exact ixB_at (a := []) [] (by simp)
    rw [e3] at hk
    simp (disch := first | omega | (simp only [go_sem]; first | done | omega)) only [go_sem, hs]
    exact Ret.same (Nat.le_refl _) hk
  simp (disch := first | omega | (simp only [go_sem]; first | done | omega)) only [go_sem, hs]
  refine key _ ?_
  simp (disch := first | omega | (simp only [go_sem]; first | done | omega)) only [go_sem]
  exact Ret.same (Nat.le_refl _) hk
theorem indexS_a (s : ByteArray) (c : UInt8) (hk : K (.c (.int .i64 (Lib.indexByte (tL s) c))) H) : ACalls Tryz.prog 108 [(.c (.str s)), (.c (.str (tB [c])))] H K := by
  refine acalls Tryz.func108 rfl (by kernel_rfl) (by simp (disch := first | omega | (simp only [go_sem]; first | done | omega)) only [go_sem]) (fun hH => ?_)
  simp (disch := first | omega | (simp only [go_sem]; first | done | omega)) only [go_sem]
  refine index1_a s c ?_
  simp (disch := first | omega | (simp only [go_sem]; first | done | omega)) only [go_sem]
  exact Ret.same (Nat.le_refl _) hk
def cutR (l : List UInt8) (c : UInt8) : List UInt8 × List UInt8 × Bool := if c ∈ l then (l.take (Lib.indexByte l c).toNat, l.drop ((Lib.indexByte l c).toNat + 1), true) else (l, [], false)
theorem cutR_at {a b : List UInt8} {c : UInt8} (h : c ∉ a) : cutR (a ++ c :: b) c = (a, b, true) := by
  unfold cutR
  rw [if_pos (by simp), ixB_at b h]
  simp
theorem cutR_no {a : List UInt8} {c : UInt8} (h : c ∉ a) : cutR a c = (a, [], false) := by unfold cutR; rw [if_neg h]
theorem cut1_a (l : List UInt8) (c : UInt8) (hl : l.length ≤ 1000000) (hk : K (.tup [.c (.str (tB (cutR l c).1)), .c (.str (tB (cutR l c).2.1)), (.c (.bool ((cutR l c).2.2)))]) H) : ACalls Tryz.prog 171 [(.c (.str (tB l))), (.c (.str (tB [c])))] H K := by
  have e1 : (tB [c]).size = 1 := rfl
  have hsz := tB_size l
  have key : ∀ (K : AV → Hp → Prop), K (.tup [.c (.str (tB (cutR l c).1)), .c (.str (tB (cutR l c).2.1)), (.c (.bool ((cutR l c).2.2)))]) H → ACalls Tryz.prog 228 [(.c (.str (tB l))), (.c (.str (tB [c])))] H K := by
    intro K hk
    rcases cut_cases c l with h | ⟨a, b, rfl, h⟩
    · rw [cutR_no h] at hk
      refine acalls Tryz.func228 rfl (by kernel_rfl) (by simp (disch := first | omega | (simp only [go_sem]; first | done | omega)) only [go_sem]) (fun hH => ?_)
      simp (disch := first | omega | (simp only [go_sem]; first | done | omega)) only [go_sem]
      refine index1_a (tB l) c ?_
      rw [tL_tB, ixB_no h]
      simp (disch := first | omega | (simp only [go_sem]; first | done | omega)) only [go_sem]
      exact Ret.same (Nat.le_refl _) hk
    · rw [cutR_at h] at hk
      rw [List.length_append, List.length_cons] at hl hsz
      have h1 : (tB (a ++ c :: b)).extract 0 a.length = tB a := by rw [ext_tB]; simp
      have h2 : (tB (a ++ c :: b)).extract (a.length + 1) (tB (a ++ c :: b)).size = tB b := by
        rw [ext_tB, hsz, List.drop_append, List.drop_of_length_le (by omega), show a.length + 1 - a.length = 1 by omega, List.nil_append, List.drop_succ_cons, List.drop_zero, List.take_of_length_le (by omega)]
      refine acalls Tryz.func228 rfl (by kernel_rfl) (by simp (disch := first | omega | (simp only [go_sem]; first | done | omega)) only [go_sem]) (fun hH => ?_)
      simp (disch := first | omega | (simp only [go_sem]; first | done | omega)) only [go_sem]
      refine index1_a (tB (a ++ c :: b)) c ?_
      rw [tL_tB, ixB_at b h]
      simp (disch := first | omega | (simp only [go_sem]; first | done | omega)) only [go_sem]
      have e3 : ((a.length : Int) + 1).toNat = a.length + 1 := by omega
      refine w_draw (by kernel_rfl) (by decide +kernel) ?_
      simp (disch := first | omega | (simp only [go_sem]; first | done | omega)) only [go_sem, e1, e3, hsz]
      rw [hsz] at h2
      rw [h1, h2]
      exact Ret.same (Nat.le_refl _) hk
  refine acalls Tryz.func171 rfl (by kernel_rfl) (by simp (disch := first | omega | (simp only [go_sem]; first | done | omega)) only [go_sem]) (fun hH => ?_)
  simp (disch := first | omega | (simp only [go_sem]; first | done | omega)) only [go_sem]
  refine key _ ?_
  simp (disch := first | omega | (simp only [go_sem]; first | done | omega)) only [go_sem]
  exact Ret.same (Nat.le_refl _) hk
theorem hasP_a (l : List UInt8) (c : UInt8) (hl : l.length ≤ 1000000) (hk : K (.c (.bool (decide (l.head? = some c)))) H) : ACalls Tryz.prog 190 [(.c (.str (tB l))), (.c (.str (tB [c])))] H K := by
  have e1 : (tB [c]).size = 1 := rfl
  have hsz := tB_size l
  cases l with
  | nil =>
    refine acalls Tryz.func190 rfl (by kernel_rfl) (by simp (disch := first | omega | (simp only [go_sem]; first | done | omega)) only [go_sem]) (fun hH => ?_)
    simp (disch := first | omega | (simp only [go_sem]; first | done | omega)) only [go_sem, e1, hsz]
    exact Ret.same (Nat.le_refl _) hk
  | cons x t =>
    have h1 : (tB (x :: t)).extract 0 1 = tB [x] := by rw [ext_tB]; rfl
    have h2 : decide (tB [x] = tB [c]) = decide ((x :: t).head? = some c) := by
      rw [decide_eq_decide, tB_inj]
      simp
    refine acalls Tryz.func190 rfl (by kernel_rfl) (by simp (disch := first | omega | (simp only [go_sem]; first | done | omega)) only [go_sem]) (fun hH => ?_)
    simp (disch := first | omega | (simp only [go_sem]; first | done | omega)) only [go_sem, e1, hsz, h1]
    rw [h2]
    exact Ret.same (Nat.le_refl _) hk
theorem trimP_a (l : List UInt8) (hl : l.length ≤ 1000000) (hk : K (.c (.str (tB (stripF l)))) H) : ACalls Tryz.prog 230 [(.c (.str (tB l))), (.c (.str (tB [45])))] H K := by
  have e1 : (tB [45]).size = 1 := rfl
  have hsz := tB_size l
  have key : ∀ (K : AV → Hp → Prop), K (.c (.str (tB (stripF l)))) H → ACalls Tryz.prog 269 [(.c (.str (tB l))), (.c (.str (tB [45])))] H K := by
    intro K hk
    unfold stripF at hk
    refine acalls Tryz.func269 rfl (by kernel_rfl) (by simp (disch := first | omega | (simp only [go_sem]; first | done | omega)) only [go_sem]) (fun hH => ?_)
    simp (disch := first | omega | (simp only [go_sem]; first | done | omega)) only [go_sem]
    refine hasP_a l 45 hl ?_
    by_cases h : l.head? = some 45
    · obtain ⟨t, rfl⟩ : ∃ t, l = 45 :: t := by
        cases l with
        | nil => cases h
        | cons x t => simp only [List.head?_cons, Option.some.injEq] at h; exact ⟨t, by rw [h]⟩
      rw [if_pos h] at hk
      have h1 : (tB (45 :: t)).extract 1 (tB (45 :: t)).size = tB t := by rw [ext_tB, hsz]; simp
      rw [decide_eq_true h]
      rw [hsz, List.length_cons] at h1
      simp (disch := first | omega | (simp only [go_sem]; first | done | omega)) only [go_sem, e1, hsz]
      rw [h1]
      exact Ret.same (Nat.le_refl _) hk
    · rw [if_neg h] at hk
      rw [decide_eq_false h]
      simp (disch := first | omega | (simp only [go_sem]; first | done | omega)) only [go_sem]
      exact Ret.same (Nat.le_refl _) hk
  refine acalls Tryz.func230 rfl (by kernel_rfl) (by simp (disch := first | omega | (simp only [go_sem]; first | done | omega)) only [go_sem]) (fun hH => ?_)
  simp (disch := first | omega | (simp only [go_sem]; first | done | omega)) only [go_sem]
  refine key _ ?_
  simp (disch := first | omega | (simp only [go_sem]; first | done | omega)) only [go_sem]
  exact Ret.same (Nat.le_refl _) hk
theorem cutSfx_a (l : List UInt8) (c : UInt8) (hl : l.length ≤ 1000000) (hk : K (.tup [.c (.str (tB (if l.getLast? = some c then l.dropLast else l))), (.c (.bool (decide (l.getLast? = some c))))]) H) : ACalls Tryz.prog 226 [(.c (.str (tB l))), (.c (.str (tB [c])))] H K := by
  have e1 : (tB [c]).size = 1 := rfl
  have hsz := tB_size l
  have key0 : ∀ (K : AV → Hp → Prop), K (.c (.bool (decide (l.getLast? = some c)))) H → ACalls Tryz.prog 296 [(.c (.str (tB l))), (.c (.str (tB [c])))] H K := by
    intro K hk
    rcases List.eq_nil_or_concat l with rfl | ⟨t, b, rfl⟩
    · refine acalls Tryz.func296 rfl (by kernel_rfl) (by simp (disch := first | omega | (simp only [go_sem]; first | done | omega)) only [go_sem]) (fun hH => ?_)
      simp (disch := first | omega | (simp only [go_sem]; first | done | omega)) only [go_sem, e1, hsz]
      exact Ret.same (Nat.le_refl _) hk
    · rw [List.concat_eq_append] at *
      rw [List.length_append, List.length_singleton] at hl hsz
      have e3 : ((t.length + 1 : Nat) : Int) - 1 = (t.length : Int) := by omega
      have h1 : (tB (t ++ [b])).extract t.length (t.length + 1) = tB [b] := by rw [ext_tB]; simp
      have h2 : decide (tB [b] = tB [c]) = decide ((t ++ [b]).getLast? = some c) := by
        rw [decide_eq_decide, tB_inj]
        simp
      refine acalls Tryz.func296 rfl (by kernel_rfl) (by simp (disch := first | omega | (simp only [go_sem]; first | done | omega)) only [go_sem]) (fun hH => ?_)
      simp (disch := first | omega | (simp only [go_sem]; first | done | omega)) only [go_sem, e1, hsz, e3, h1]
      rw [h2]
      exact Ret.same (Nat.le_refl _) hk
  have key : ∀ (K : AV → Hp → Prop), K (.tup [.c (.str (tB (if l.getLast? = some c then l.dropLast else l))), (.c (.bool (decide (l.getLast? = some c))))]) H → ACalls Tryz.prog 266 [(.c (.str (tB l))), (.c (.str (tB [c])))] H K := by
    intro K hk
    refine acalls Tryz.func266 rfl (by kernel_rfl) (by simp (disch := first | omega | (simp only [go_sem]; first | done | omega)) only [go_sem]) (fun hH => ?_)
    simp (disch := first | omega | (simp only [go_sem]; first | done | omega)) only [go_sem]
    refine key0 _ ?_
    by_cases h : l.getLast? = some c
    · obtain ⟨t, rfl⟩ : ∃ t, l = t ++ [c] := by
        rcases List.eq_nil_or_concat l with rfl | ⟨t, b, rfl⟩
        · simp at h
        · rw [List.concat_eq_append] at h ⊢
          simp at h
          exact ⟨t, by rw [h]⟩
      rw [if_pos h, decide_eq_true h, List.dropLast_concat] at hk
      rw [List.length_append, List.length_singleton] at hl hsz
      have e3 : ((t.length + 1 : Nat) : Int) - 1 = (t.length : Int) := by omega
      have h1 : (tB (t ++ [c])).extract 0 t.length = tB t := by rw [ext_tB]; simp
      rw [decide_eq_true h]
      simp (disch := first | omega | (simp only [go_sem]; first | done | omega)) only [go_sem, e1, hsz, e3, h1]
      exact Ret.same (Nat.le_refl _) hk
    · rw [if_neg h, decide_eq_false h] at hk
      rw [decide_eq_false h]
      simp (disch := first | omega | (simp only [go_sem]; first | done | omega)) only [go_sem]
      exact Ret.same (Nat.le_refl _) hk
  refine acalls Tryz.func226 rfl (by kernel_rfl) (by simp (disch := first | omega | (simp only [go_sem]; first | done | omega)) only [go_sem]) (fun hH => ?_)
  simp (disch := first | omega | (simp only [go_sem]; first | done | omega)) only [go_sem]
  refine key _ ?_
  simp (disch := first | omega | (simp only [go_sem]; first | done | omega)) only [go_sem]
  exact Ret.same (Nat.le_refl _) hk
theorem count_split (l : List UInt8) (c : UInt8) : Lib.countByte l c + 1 = (splitL c l).length := by
  rw [splitL_len]
  unfold Lib.countByte
  rw [List.count_eq_length_filter]
  congr 3
def rowP (n k : Nat) (ps : List (List UInt8)) : List (List UInt8) := ps.take k ++ List.replicate (n - k) []
theorem rowP_0 (n : Nat) (ps : List (List UInt8)) : (rowP n 0 ps).map encTx = List.replicate n [.str ⟨#[]⟩] := by
  unfold rowP
  rw [List.take_zero, List.nil_append, Nat.sub_zero, List.map_replicate]
  rfl
theorem rowP_len {n k : Nat} {ps : List (List UInt8)} (hn : ps.length = n) (hk : k ≤ n) : (rowP n k ps).length = n := by
  unfold rowP
  rw [List.length_append, List.length_take, List.length_replicate]
  omega
theorem rowP_set {n k : Nat} {ps : List (List UInt8)} {a : List UInt8} (hn : ps.length = n) (hk : k < n) (ha : ps[k]? = some a) : (rowP n k ps).set k a = rowP n (k + 1) ps := by
  unfold rowP
  have h1 : (ps.take k).length = k := by rw [List.length_take]; omega
  have h2 : ps[k]'(by omega) = a := by rw [List.getElem?_eq_getElem (by omega)] at ha; exact Option.some.inj ha
  rw [List.set_append_right _ _ (by omega), h1, Nat.sub_self, List.take_succ_eq_append_getElem (by omega), h2, show n - k = (n - (k + 1)) + 1 by omega, List.replicate_succ, List.set_cons_zero, List.append_assoc]
  rfl
theorem rowP_all {n : Nat} {ps : List (List UInt8)} (hn : ps.length = n) : rowP n n ps = ps := by
  unfold rowP
  rw [List.take_of_length_le (by omega), Nat.sub_self, List.replicate_zero, List.append_nil]
theorem genSplit_a (l : List UInt8) (c : UInt8) (hl : l.length ≤ 1000000) (hk : K (.c (.lst 1 ((splitL c l).map encTx))) H) : ACalls Tryz.prog 229 [(.c (.str (tB l))), (.c (.str (tB [c]))), (.c (.int .i64 0)), (.c (.int .i64 (-1)))] H K := by
  have e1 : (tB [c]).size = 1 := rfl
  have hsz := tB_size l
  have hne : tB [c] ≠ ⟨#[]⟩ := fun h => by have := congrArg ByteArray.size h; rw [e1] at this; cases this
  have hct := count_split l c
  have hlen : (splitL c l).length ≤ l.length + 1 := by
    rw [splitL_len]
    have := List.length_filter_le (fun x => decide (x = c)) l
    omega
  have hpos : 1 ≤ (splitL c l).length := by rw [splitL_len]; omega
  obtain ⟨ps, hps⟩ : ∃ ps, ps = splitL c l := ⟨_, rfl⟩
  obtain ⟨n, hn⟩ : ∃ n, n = ps.length := ⟨_, rfl⟩
  rw [← hps, ← hn] at hct hlen hpos
  rw [← hps] at hk
  have e2 : (Lib.countByte l c : Int) + 1 = n := by omega
  have e3 : min (n : Int) ((l.length : Int) + 1) = n := by omega
  refine ACalls.postR (K1 := fun v H' => v = .c (.sl (some (H.length, 0)) n) ∧ H' = H ++ [.row 9 1 (ps.map encTx) true]) ?_ (fun hH v H' h => by
    obtain ⟨rfl, rfl⟩ := h
    exact Ret.frzRow 0 hH (Nat.le_refl _) rfl (pureL_Tx _) (by simp) (by simp [hn]) hk)
  refine acalls Tryz.func229 rfl (by kernel_rfl) (by simp (disch := first | omega | (simp only [go_sem]; first | done | omega)) only [go_sem]) (fun hH => ?_)
  simp (disch := first | omega | (simp only [go_sem]; first | done | omega)) only [go_sem, e1, hne]
  refine count_a (tB l) c ?_
  rw [tL_tB]
  simp (disch := first | omega | (simp only [go_sem]; first | done | omega)) only [go_sem, e2, hsz, e3]
  refine AWp.loop (H.length + 1) [1, 2, 3, 9] [0, 10] (fun (q : Nat × List UInt8) => q.1 + 1 ≤ n ∧ splitL c q.2 = ps.drop q.1 ∧ q.2.length ≤ 1000000) (fun (q : Nat × List UInt8) => [(0, .c (.str (tB q.2))), (10, (.c (.int .i64 (q.1))))]) (fun (q : Nat × List UInt8) => H ++ [.row 9 1 ((rowP n q.1 ps).map encTx) true]) (fun (q : Nat × List UInt8) => n - q.1) (by kernel_rfl) (fun _ => rfl) (by kernel_rfl) (by first | (simp; done) | omega) (by first | (simp; done) | (simp; omega) | omega) kl ?_ (fun q hq _ _ => ?_)
  · refine Next.mk (0, l) ⟨by dsimp only; omega, hps.symm, hl⟩ ?_
    dsimp only
    rw [rowP_0]
    exact wk
  obtain ⟨k, r⟩ := q
  obtain ⟨q1, q2, q3⟩ := hq
  dsimp only at q1 q2 q3 ⊢
  have hrl := rowP_len (n := n) (k := k) hn.symm (by omega)
  have hrs := tB_size r
  by_cases hlt : k + 1 < n
  · have hlt' : (k : Int) < (n : Int) - 1 := by omega
    rcases cut_cases c r with h | ⟨a, b, rfl, h⟩
    · rw [splitL_no h] at q2
      have := congrArg List.length q2
      rw [List.length_drop, List.length_singleton] at this
      omega
    rw [splitL_cut b h] at q2
    rw [List.length_append, List.length_cons] at q3 hrs
    have hpk : ps[k]? = some a := by
      have := congrArg List.head? q2
      rw [List.head?_drop] at this
      exact this.symm
    have hst := rowP_set hn.symm (by omega) hpk
    have hnx : splitL c b = ps.drop (k + 1) := by
      have := congrArg List.tail q2
      rw [List.tail_drop] at this
      exact this
    have h1 : (tB (a ++ c :: b)).extract 0 a.length = tB a := by rw [ext_tB]; simp
    have h2 : (tB (a ++ c :: b)).extract (a.length + 1) (a.length + (b.length + 1)) = tB b := by
      rw [ext_tB, List.drop_append, List.drop_of_length_le (by omega), show a.length + 1 - a.length = 1 by omega, List.nil_append, List.drop_succ_cons, List.drop_zero, List.take_of_length_le (by omega)]
    have e4 : ((a.length : Int) + 1).toNat = a.length + 1 := by omega
    have hset : ((rowP n k ps).map encTx).set k (encTx a) = (rowP n (k + 1) ps).map encTx := by rw [← hst, List.map_set]
    have hml : ((rowP n k ps).map encTx).length = n := by rw [List.length_map, hrl]
    simp (disch := first | omega | (simp only [go_sem]; first | done | omega)) only [go_sem, hlt']
    refine indexS_a (tB (a ++ c :: b)) c ?_
    rw [tL_tB, ixB_at b h]
    have hdr : ∀ (j : Nat) (h : j < ((rowP n k ps).map encTx).length), List.drop 1 (((rowP n k ps).map encTx)[j]) = [] := fun j h => by rw [List.getElem_map]; rfl
    generalize (rowP n k ps).map encTx = R at *
    simp (disch := first | omega | (simp only [go_sem]; first | done | omega)) only [go_sem, e1, e4, hrs, h1, h2, hml, hdr]
    refine Next.mk (k + 1, b) ⟨⟨by dsimp only; omega, hnx, by dsimp only; omega⟩, by dsimp only; omega⟩ ?_
    dsimp only
    rw [← hset]
    exact wk
  · have hlt' : ¬ (k : Int) < (n : Int) - 1 := by omega
    have hkn : k + 1 = n := by omega
    obtain ⟨hc1, hc2⟩ : c ∉ r ∧ ps[k]? = some r := by
      rcases cut_cases c r with h | ⟨a, b, rfl, h⟩
      · refine ⟨h, ?_⟩
        rw [splitL_no h] at q2
        have := congrArg List.head? q2
        rw [List.head?_drop] at this
        exact this.symm
      · rw [splitL_cut b h] at q2
        have h3 := congrArg List.length q2
        have h4 : 1 ≤ (splitL c b).length := by rw [splitL_len]; omega
        rw [List.length_drop, List.length_cons] at h3
        omega
    have hst := rowP_set hn.symm (by omega) hc2
    have hset : ((rowP n k ps).map encTx).set k (encTx r) = ps.map encTx := by rw [← List.map_set, hst, hkn, rowP_all hn.symm]
    have hml : ((rowP n k ps).map encTx).length = n := by rw [List.length_map, hrl]
    have hdr : ∀ (j : Nat) (h : j < ((rowP n k ps).map encTx).length), List.drop 1 (((rowP n k ps).map encTx)[j]) = [] := fun j h => by rw [List.getElem_map]; rfl
    generalize (rowP n k ps).map encTx = R at *
    simp (disch := first | omega | (simp only [go_sem]; first | done | omega)) only [go_sem, hlt', hml, hdr]
    rw [show ([.str (tB r)] : List AC) = encTx r from rfl, hset]
    have e5 : ((k : Int) + 1).toNat - 0 = n := by omega
    rw [e5]
    exact Ret.same (by simp) ⟨rfl, rfl⟩
theorem splitS_a (l : List UInt8) (c : UInt8) (hl : l.length ≤ 1000000) (hk : K (.c (.lst 1 ((splitL c l).map encTx))) H) : ACalls Tryz.prog 172 [(.c (.str (tB l))), (.c (.str (tB [c])))] H K := by
  refine acalls Tryz.func172 rfl (by kernel_rfl) (by simp (disch := first | omega | (simp only [go_sem]; first | done | omega)) only [go_sem]) (fun hH => ?_)
  simp (disch := first | omega | (simp only [go_sem]; first | done | omega)) only [go_sem]
  refine genSplit_a l c hl ?_
  simp (disch := first | omega | (simp only [go_sem]; first | done | omega)) only [go_sem]
  exact Ret.same (Nat.le_refl _) hk
end Go.Proofs.YtflklkijfkmeiaaGreatDoor
