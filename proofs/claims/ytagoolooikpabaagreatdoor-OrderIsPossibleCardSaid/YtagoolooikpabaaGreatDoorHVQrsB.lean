/- The document's parser: its small steps. Condition: the text is not long. -/
import Derived.Test.YtagoolooikpabaaGreatDoorHVQrsA
import Derived.Test.YtagoolooikpabaaGreatDoorHVPrsE
set_option linter.all false
namespace Go.Proofs.YtagoolooikpabaaGreatDoor
open Go Go.RowKit
set_option maxRecDepth 100000
set_option maxHeartbeats 2000000
variable {H : Hp} {K : AV → Hp → Prop}
def psQ (T : List Tok) (d dp bad : Int) : AObj := .row 243 4 [[.lst 3 (T.map encQ), .int .i64 d, .int .i64 bad, .int .i64 dp]] true
theorem psQ_ok {T : List Tok} {d dp bad : Int} (n : Nat) : (psQ T d dp bad).okN n := by
 intro e he
 rw [List.mem_singleton] at he
 subst he
 refine ⟨rfl, fun y hy => ?_⟩
 simp only [List.mem_cons, List.not_mem_nil, or_false] at hy
 rcases hy with rfl | rfl | rfl | rfl <;> trivial
theorem HOk.psQ {T : List Tok} {d dp bad : Int} {i : Nat} (h : HOk H) : HOk (H.set i (psQ T d dp bad)) := HOk.set h (psQ_ok _)
@[go_sem] def trQ0 : List AC := [.int .u8 63, .str ⟨#[]⟩, .int .i64 0, .sl none 0, .int .i64 0]
theorem mapK_fq : mapK Tryz.prog 79 = some 9 := (by kernel_rfl)
theorem mapZ_fq : (mapE Tryz.prog 79).bind (zeroA Tryz.prog) = some (.c (.int .i64 0)) := (by kernel_rfl)
def fnTab : List (ByteArray × Int) := [(tB wMin, 2), (tB wMax, 2), (tB wAbs, 1), (tB wGd, 1), (tB wIf, 3)]
def encFt (x : ByteArray × Int) : AV × AV := (.c (.str x.1), .c (.int .i64 x.2))
theorem fnTab_get (x : List UInt8) : mapGet Tryz.prog 9 (.c (.str (tB x))) (some (.c (.int .i64 0))) (fnTab.map encFt) = some (.c (.int .i64 (fnN x)), decide (0 < fnN x)) := by
 rw [get_of (P := Tryz.prog) (z := .c (.int .i64 0)) (e := encFt) (p := fun y => decide (tB x = y.1)) (l := fnTab) (kt := 9) (k := .c (.str (tB x))) (by kernel_rfl) (findA_str (tB x) (fun y : ByteArray × Int => y.1) (fun y : ByteArray × Int => .c (.int .i64 y.2)) fnTab)]
 unfold fnTab fnN
 simp only [List.find?_cons, List.find?_nil, tB_inj]
 by_cases h1 : x = wMin
 ·subst h1; rfl
 by_cases h2 : x = wMax
 ·subst h2; rfl
 by_cases h3 : x = wAbs
 ·subst h3; rfl
 by_cases h4 : x = wGd
 ·subst h4; rfl
 by_cases h5 : x = wIf
 ·subst h5; rfl
 simp [h1, h2, h3, h4, h5]
theorem functionQ_a (x : List UInt8) (hk : K (.c (.int .i64 (fnN x))) H) : ACalls Tryz.prog 59 [(.c (.str (tB x)))] H K := by
 have hget := fnTab_get x
 refine acalls Tryz.func59 rfl (by kernel_rfl) (by simp (disch := first | omega | (simp only [go_sem]; try omega)) only [go_sem]) (fun hH => ?_)
 simp (disch := first | omega | (simp only [go_sem]; try omega)) only [go_sem, mapK_fq, mapZ_fq]
 refine mup_mp (es' := (fnTab.take 1).map encFt) (by kernel_rfl) (by kernel_rfl) ?_
 simp (disch := first | omega | (simp only [go_sem]; try omega)) only [go_sem, mapK_fq, mapZ_fq]
 refine mup_mp (es' := (fnTab.take 2).map encFt) (by kernel_rfl) (by kernel_rfl) ?_
 simp (disch := first | omega | (simp only [go_sem]; try omega)) only [go_sem, mapK_fq, mapZ_fq]
 refine mup_mp (es' := (fnTab.take 3).map encFt) (by kernel_rfl) (by kernel_rfl) ?_
 simp (disch := first | omega | (simp only [go_sem]; try omega)) only [go_sem, mapK_fq, mapZ_fq]
 refine mup_mp (es' := (fnTab.take 4).map encFt) (by kernel_rfl) (by kernel_rfl) ?_
 simp (disch := first | omega | (simp only [go_sem]; try omega)) only [go_sem, mapK_fq, mapZ_fq]
 refine mup_mp (es' := fnTab.map encFt) (by kernel_rfl) (by kernel_rfl) ?_
 simp (disch := first | omega | (simp only [go_sem]; try omega)) only [go_sem, mapK_fq, mapZ_fq]
 refine look_mp (by kernel_rfl) hget rfl ?_
 simp (disch := first | omega | (simp only [go_sem]; try omega)) only [go_sem]
 exact Ret.drop hH (Nat.le_refl _) trivial hk
theorem nextQ_a {i : Nat} {t : Tok} {T : List Tok} {d dp bad : Int} (hi : H[i]? = some (psQ (t :: T) d dp bad)) (hk : K (.c (.int .u8 (qK t))) H) : ACalls Tryz.prog 171 [.c (.ptr (some (i, 0, 0)))] H K := by
 unfold psQ at hi
 refine acalls Tryz.func171 rfl (by kernel_rfl) (by simp (disch := first | omega | (simp only [go_sem]; try omega)) only [go_sem]) (fun hH => ?_)
 simp (disch := first | omega | (simp only [go_sem]; try omega)) only [go_sem, hi]
 exact Ret.same (Nat.le_refl _) hk
theorem failQ_a {i : Nat} {t : Tok} {T : List Tok} {d dp : Int} (hi : H[i]? = some (psQ (t :: T) d dp (-1))) (hk : K (.agg trQ0) (H.set i (psQ (t :: T) d dp t.o))) : ACalls Tryz.prog 172 [.c (.ptr (some (i, 0, 0)))] H K := by
 have hil := getElem?_lt hi
 unfold psQ at hi hk
 refine acalls Tryz.func172 rfl (by kernel_rfl) (by simp (disch := first | omega | (simp only [go_sem]; try omega)) only [go_sem]) (fun hH => ?_)
 simp (disch := first | omega | (simp only [go_sem]; try omega)) only [go_sem, hi]
 exact Ret.drop (HOk.psQ (T := t :: T) (d := d) (dp := dp) (bad := t.o) hH) (by simp) (by simp [AV.ok, AV.ok1, AC.ok]) hk
theorem failQ_bad {i : Nat} {T : List Tok} {d dp : Int} {e : Nat} (hi : H[i]? = some (psQ T d dp e)) (hk : K (.agg trQ0) H) : ACalls Tryz.prog 172 [.c (.ptr (some (i, 0, 0)))] H K := by
 have hil := getElem?_lt hi
 unfold psQ at hi
 refine acalls Tryz.func172 rfl (by kernel_rfl) (by simp (disch := first | omega | (simp only [go_sem]; try omega)) only [go_sem]) (fun hH => ?_)
 simp (disch := first | omega | (simp only [go_sem]; try omega)) only [go_sem, hi]
 exact Ret.drop hH (Nat.le_refl _) (by simp [trQ0, AV.ok, AV.ok1, AC.ok]) hk
theorem takeQ_a {i : Nat} {t : Tok} {T : List Tok} {d dp : Int} (hT : T ≠ []) (h36 : ¬ qK t = 36) (hi : H[i]? = some (psQ (t :: T) d dp (-1))) (hk : K (.agg (encQ t)) (H.set i (psQ T d (deepF d dp t) (-1)))) : ACalls Tryz.prog 224 [.c (.ptr (some (i, 0, 0)))] H K := by
 have hil := getElem?_lt hi
 have hTl : 0 < T.length := List.length_pos_iff.2 hT
 unfold psQ at hi hk
 by_cases h2 : dp < 0
 ·by_cases h3 : 20 < d
  ·have hd : deepF d dp t = t.o := by unfold deepF; rw [if_pos ⟨h2, h3⟩]
   rw [hd] at hk
   refine acalls Tryz.func224 rfl (by kernel_rfl) (by simp (disch := first | omega | (simp only [go_sem]; try omega)) only [go_sem]) (fun hH => ?_)
   simp (disch := first | omega | (simp only [go_sem]; try omega)) only [go_sem, hi, h2, h3, h36, hTl]
   exact Ret.drop (HOk.psQ hH) (by simp) (by simp [AV.ok, AV.ok1, AC.ok]) hk
  ·have hd : deepF d dp t = dp := by unfold deepF; rw [if_neg (fun h => h3 h.2)]
   rw [hd] at hk
   refine acalls Tryz.func224 rfl (by kernel_rfl) (by simp (disch := first | omega | (simp only [go_sem]; try omega)) only [go_sem]) (fun hH => ?_)
   simp (disch := first | omega | (simp only [go_sem]; try omega)) only [go_sem, hi, h2, h3, h36, hTl]
   exact Ret.drop (HOk.psQ hH) (by simp) (by simp [AV.ok, AV.ok1, AC.ok]) hk
 ·have hd : deepF d dp t = dp := by unfold deepF; rw [if_neg (fun h => h2 h.1)]
  rw [hd] at hk
  refine acalls Tryz.func224 rfl (by kernel_rfl) (by simp (disch := first | omega | (simp only [go_sem]; try omega)) only [go_sem]) (fun hH => ?_)
  simp (disch := first | omega | (simp only [go_sem]; try omega)) only [go_sem, hi, h2, h36, hTl]
  exact Ret.drop (HOk.psQ hH) (by simp) (by simp [AV.ok, AV.ok1, AC.ok]) hk
theorem qK_k {l : List UInt8} {t : Tok} (h : tkOk l t) : (qK t = 36 ↔ t.k = 0) ∧ (qK t = 110 ↔ t.k = 1) ∧ (qK t = 119 ↔ t.k = 2) ∧ ∀ ops : List UInt8, (∀ c ∈ ops, c ∈ sgnL) → decide (qB t ∈ ops) = (sgT t ops).isSome := by
 have key : ∀ c ∈ sgnL, c.toNat ≠ 36 ∧ c.toNat ≠ 110 ∧ c.toNat ≠ 119 := by decide
 have no : ∀ (b : UInt8), b ∉ sgnL → ∀ ops : List UInt8, (∀ c ∈ ops, c ∈ sgnL) → decide (b ∈ ops) = false := fun b hb ops ho => decide_eq_false fun hm => hb (ho b hm)
 unfold qK qB sgT
 rcases h.2.2 with h | h | h | h | h
 ·rw [h.1]
  exact ⟨by simp, by simp, by simp, fun ops ho => by simpa using no 36 (by decide) ops ho⟩
 ·rw [h.1]
  exact ⟨by simp, by simp, by simp, fun ops ho => by simpa using no 110 (by decide) ops ho⟩
 ·rw [h.1]
  exact ⟨by simp, by simp, by simp, fun ops ho => by simpa using no 119 (by decide) ops ho⟩
 ·obtain ⟨c, hc, hx⟩ := h.2
  have := key c hc
  rw [h.1, hx]
  refine ⟨by simp; omega, by simp; omega, by simp; omega, fun ops ho => ?_⟩
  simp only [List.headD_cons]
  by_cases hm : c ∈ ops
  ·simp [hm]
  ·simp [hm]
 ·rw [h.1]
  exact ⟨by simp, by simp, by simp, fun ops ho => by simpa using no 63 (by decide) ops ho⟩
theorem qK_sg {l : List UInt8} {t : Tok} (h : tkOk l t) (c : UInt8) (hc : c ∈ sgnL) (n : Int) (hn : n = (c.toNat : Int)) : (qK t = n) ↔ (sgT t [c]).isSome = true := by
 subst hn
 have := (qK_k h).2.2.2 [c] (by simpa using hc)
 rw [← this, decide_eq_true_eq, List.mem_singleton]
 unfold qK
 constructor
 ·intro h
  apply UInt8.toNat_inj.1
  omega
 ·intro h; rw [h]
theorem tl_ne {l : List UInt8} {t : Tok} {T : List Tok} (hT : Tl l (t :: T)) (hk : t.k ≠ 0 ∧ t.k ≠ 4) : T ≠ [] := by
 obtain ⟨u, T1, e, _⟩ := (hT.next hk).1.head
 rw [e]; simp
theorem needQ_ok {l : List UInt8} {i : Nat} {t : Tok} {T : List Tok} {d dp : Int} (c : UInt8) (n : Int) (hn : n = (c.toNat : Int)) (hc : c ∈ sgnL) (hT : Tl l (t :: T)) (hs : (sgT t [c]).isSome = true) (hi : H[i]? = some (psQ (t :: T) d dp (-1))) (hk : K (.c (.bool true)) (H.set i (psQ T d (deepF d dp t) (-1)))) : ACalls Tryz.prog 288 [.c (.ptr (some (i, 0, 0))), .c (.int .u8 n)] H K := by
 have hil := getElem?_lt hi
 have hi' := hi
 have hk3 := sgT_is hs
 have hq := (qK_sg hT.ok c hc n hn).2 hs
 have h36 : ¬ qK t = 36 := fun h => by have := (qK_k hT.ok).1.1 h; omega
 unfold psQ at hi
 refine acalls Tryz.func288 rfl (by kernel_rfl) (by simp (disch := first | omega | (simp only [go_sem]; try omega)) only [go_sem]) (fun hH => ?_)
 simp (disch := first | omega | (simp only [go_sem]; try omega)) only [go_sem, hi]
 refine nextQ_a hi' ?_
 simp (disch := first | omega | (simp only [go_sem]; try omega)) only [go_sem, hq]
 refine takeQ_a (tl_ne hT (by omega)) h36 hi' ?_
 simp (disch := first | omega | (simp only [go_sem]; try omega)) only [go_sem]
 exact Ret.same (by simp) hk
theorem needQ_no {l : List UInt8} {i : Nat} {t : Tok} {T : List Tok} {d dp : Int} (c : UInt8) (n : Int) (hn : n = (c.toNat : Int)) (hc : c ∈ sgnL) (hT : tkOk l t) (hs : (sgT t [c]).isSome = false) (hi : H[i]? = some (psQ (t :: T) d dp (-1))) (hk : K (.c (.bool false)) (H.set i (psQ (t :: T) d dp t.o))) : ACalls Tryz.prog 288 [.c (.ptr (some (i, 0, 0))), .c (.int .u8 n)] H K := by
 have hil := getElem?_lt hi
 have hi' := hi
 have hq : ¬ qK t = n := fun h => by have := (qK_sg hT c hc n hn).1 h; rw [hs] at this; cases this
 unfold psQ at hi
 refine acalls Tryz.func288 rfl (by kernel_rfl) (by simp (disch := first | omega | (simp only [go_sem]; try omega)) only [go_sem]) (fun hH => ?_)
 simp (disch := first | omega | (simp only [go_sem]; try omega)) only [go_sem, hi]
 refine nextQ_a hi' ?_
 simp (disch := first | omega | (simp only [go_sem]; try omega)) only [go_sem, hq]
 refine failQ_a hi' ?_
 simp (disch := first | omega | (simp only [go_sem]; try omega)) only [go_sem]
 exact Ret.same (by simp) hk
theorem needQ_bad {i : Nat} {T : List Tok} {d dp : Int} {e : Nat} (n : Int) (hi : H[i]? = some (psQ T d dp e)) (hk : K (.c (.bool false)) H) : ACalls Tryz.prog 288 [.c (.ptr (some (i, 0, 0))), .c (.int .u8 n)] H K := by
 have hi' := hi
 unfold psQ at hi
 refine acalls Tryz.func288 rfl (by kernel_rfl) (by simp (disch := first | omega | (simp only [go_sem]; try omega)) only [go_sem]) (fun hH => ?_)
 simp (disch := first | omega | (simp only [go_sem]; try omega)) only [go_sem, hi]
 refine failQ_bad hi' ?_
 simp (disch := first | omega | (simp only [go_sem]; try omega)) only [go_sem]
 exact Ret.same (Nat.le_refl _) hk
theorem closeQ_ok {l : List UInt8} {i : Nat} {t : Tok} {T : List Tok} {d dp : Int} (hd : 0 ≤ d ∧ d ≤ 100000) (hT : Tl l (t :: T)) (hs : (sgT t [41]).isSome = true) (hi : H[i]? = some (psQ (t :: T) d dp (-1))) (hk : K (.tup []) (H.set i (psQ T d (deepF (d + 1) dp t) (-1)))) : ACalls Tryz.prog 265 [.c (.ptr (some (i, 0, 0)))] H K := by
 have hil := getElem?_lt hi
 have hw1 : IntKind.i64.wrap (d + 1) = d + 1 := by rw [IntKind.wrap_i64]; omega
 have hw2 : IntKind.i64.wrap (d + 1 - 1) = d := by rw [IntKind.wrap_i64]; omega
 unfold psQ at hi
 refine acalls Tryz.func265 rfl (by kernel_rfl) (by simp (disch := first | omega | (simp only [go_sem]; try omega)) only [go_sem]) (fun hH => ?_)
 simp (disch := first | omega | (simp only [go_sem]; try omega)) only [go_sem, hi, hw1]
 refine needQ_ok (t := t) (T := T) (d := d + 1) (dp := dp) 41 41 rfl (by decide) hT hs (List.getElem?_set_self hil) ?_
 unfold psQ at hk ⊢
 simp (disch := first | omega | (simp only [go_sem]; try omega)) only [go_sem, hw2]
 exact Ret.same (by simp) hk
theorem closeQ_no {l : List UInt8} {i : Nat} {t : Tok} {T : List Tok} {d dp : Int} (hd : 0 ≤ d ∧ d ≤ 100000) (hT : tkOk l t) (hs : (sgT t [41]).isSome = false) (hi : H[i]? = some (psQ (t :: T) d dp (-1))) (hk : K (.tup []) (H.set i (psQ (t :: T) d dp t.o))) : ACalls Tryz.prog 265 [.c (.ptr (some (i, 0, 0)))] H K := by
 have hil := getElem?_lt hi
 have hw1 : IntKind.i64.wrap (d + 1) = d + 1 := by rw [IntKind.wrap_i64]; omega
 have hw2 : IntKind.i64.wrap (d + 1 - 1) = d := by rw [IntKind.wrap_i64]; omega
 unfold psQ at hi
 refine acalls Tryz.func265 rfl (by kernel_rfl) (by simp (disch := first | omega | (simp only [go_sem]; try omega)) only [go_sem]) (fun hH => ?_)
 simp (disch := first | omega | (simp only [go_sem]; try omega)) only [go_sem, hi, hw1]
 refine needQ_no (t := t) (T := T) (d := d + 1) (dp := dp) 41 41 rfl (by decide) hT hs (List.getElem?_set_self hil) ?_
 unfold psQ at hk ⊢
 simp (disch := first | omega | (simp only [go_sem]; try omega)) only [go_sem, hw2]
 exact Ret.same (by simp) hk
theorem closeQ_bad {i : Nat} {T : List Tok} {d dp : Int} {e : Nat} (hi : H[i]? = some (psQ T d dp e)) (hk : ∀ d', K (.tup []) (H.set i (psQ T d' dp e))) : ACalls Tryz.prog 265 [.c (.ptr (some (i, 0, 0)))] H K := by
 have hil := getElem?_lt hi
 unfold psQ at hi
 refine acalls Tryz.func265 rfl (by kernel_rfl) (by simp (disch := first | omega | (simp only [go_sem]; try omega)) only [go_sem]) (fun hH => ?_)
 simp (disch := first | omega | (simp only [go_sem]; try omega)) only [go_sem, hi]
 refine needQ_bad (T := T) (d := IntKind.i64.wrap (d + 1)) (dp := dp) (e := e) 41 (List.getElem?_set_self hil) ?_
 have hk := hk (IntKind.i64.wrap (IntKind.i64.wrap (d + 1) - 1))
 unfold psQ at hk
 simp (disch := first | omega | (simp only [go_sem]; try omega)) only [go_sem]
 exact Ret.same (by simp) hk
theorem smallQ_a {l : List UInt8} (hl : l.length ≤ 1000) {t : Tok} (ht : tkOk l t) (most : Int) (hk : ∀ v : Int, (∀ n, numF t.x 9 = some n → t.k ≠ 4 → v = n) → K (.tup [(.c (.int .i64 v)), (.c (.bool ((numF (qX t) 9).isSome && decide (v ≤ most))))]) H) : ACalls Tryz.prog 264 [.agg (encQ t), (.c (.int .i64 most))] H K := by
 have h1 := ht.1
 have hx : (qX t).length ≤ 1000 := by
  unfold qX
  split
  ·simp
  ·omega
 refine acalls Tryz.func264 rfl (by kernel_rfl) (by simp (disch := first | omega | (simp only [go_sem]; try omega)) only [go_sem]) (fun hH => ?_)
 simp (disch := first | omega | (simp only [go_sem]; try omega)) only [go_sem]
 refine numR_a (qX t) 9 (by omega) (by omega) (fun v hv => ?_)
 have hk := hk v (fun n hn h4 => hv n (by unfold qX; rw [if_neg h4]; exact hn))
 cases hs : (numF (qX t) 9).isSome with
 | true =>
  rw [hs] at hk
  simp (disch := first | omega | (simp only [go_sem]; try omega)) only [go_sem]
  exact Ret.drop hH (Nat.le_refl _) (by simp [AV.ok, AV.ok1, AC.ok]) hk
 | false =>
  rw [hs] at hk
  simp (disch := first | omega | (simp only [go_sem]; try omega)) only [go_sem]
  exact Ret.drop hH (Nat.le_refl _) (by simp [AV.ok, AV.ok1, AC.ok]) hk
theorem key_tok {l : List UInt8} {t : Tok} (ht : tkOk l t) (h2 : t.k = 2) : decide (isKey (tB t.x)) = decide (t.x.length ≤ 40) := by
 congr 1
 rw [eq_iff_iff]
 obtain ⟨h3, h4, h5⟩ : t.x ≠ [] ∧ (∀ c ∈ t.x, isWd c = true) ∧ ∃ c, t.x.head? = some c ∧ isSm c = true := by
  rcases ht.2.2 with h | h | h | h | h
  ·omega
  ·omega
  ·exact h.2
  ·omega
  ·omega
 have hpos : 0 < t.x.length := List.length_pos_iff.2 h3
 unfold isKey
 rw [tB_size]
 constructor
 ·intro h; exact h.2.1
 ·intro h
  refine ⟨hpos, h, ?_, fun i hi => ?_⟩
  ·obtain ⟨c, hc1, hc2⟩ := h5
   rw [byte_at hpos]
   have : t.x[0] = c := by
    rw [List.head?_eq_getElem?, List.getElem?_eq_getElem hpos] at hc1
    exact Option.some.inj hc1
   rw [this]
   unfold isSm at hc2
   rw [decide_eq_true_eq] at hc2
   omega
  ·rw [byte_at hi]
   have hw := h4 _ (List.getElem_mem hi)
   generalize t.x[i] = c at *
   unfold isWd isDg isSm at hw
   rw [Bool.or_eq_true, Bool.or_eq_true, decide_eq_true_eq, decide_eq_true_eq, decide_eq_true_eq] at hw
   unfold keyN
   omega
end Go.Proofs.YtagoolooikpabaaGreatDoor
