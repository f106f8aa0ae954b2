/- Several texts in one: The document's parser: its small steps, and what follows. No condition. -/
import Derived.Test.YtagoolooikpabaaGreatDoorHVQrsA
import Derived.Test.YtagoolooikpabaaGreatDoorHVPrsA
set_option linter.all false
namespace Go.Proofs.YtagoolooikpabaaGreatDoor
open Go Go.RowKit
set_option maxRecDepth 100000
set_option maxHeartbeats 2000000
variable {H : Hp} {K : AV → Hp → Prop}
def psQ (T : List Tok) (d dp bad : Int) : AObj := .row 243 4 [[.lst 3 (T.map encQ), .int .i64 d, .int .i64 bad, .int .i64 dp]] true
theorem psQ_ok {T : List Tok} {d dp bad : Int} (n : Nat) : (psQ T d dp bad).okN n := by
 intro e he
 rw [List.mem_singleton] at he
 subst he
 refine ⟨rfl, fun y hy => ?_⟩
 simp only [List.mem_cons, List.not_mem_nil, or_false] at hy
 rcases hy with rfl | rfl | rfl | rfl <;> trivial
theorem HOk.psQ {T : List Tok} {d dp bad : Int} {i : Nat} (h : HOk H) : HOk (H.set i (psQ T d dp bad)) := HOk.set h (psQ_ok _)
@[go_sem] def trQ0 : List AC := [.int .u8 63, .str ⟨#[]⟩, .int .i64 0, .sl none 0, .int .i64 0]
theorem mapK_fq : mapK Tryz.prog 79 = some 9 := kRf
theorem mapZ_fq : (mapE Tryz.prog 79).bind (zeroA Tryz.prog) = some (.c (.int .i64 0)) := kRf
def fnTab : List (ByteArray × Int) := [(tB wMin, 2), (tB wMax, 2), (tB wAbs, 1), (tB wGd, 1), (tB wIf, 3)]
def encFt (x : ByteArray × Int) : AV × AV := (.c (.str x.1), .c (.int .i64 x.2))
theorem fnTab_get (x : List UInt8) : mapGet Tryz.prog 9 (.c (.str (tB x))) (some (.c (.int .i64 0))) (fnTab.map encFt) = some (.c (.int .i64 (fnN x)), decide (0 < fnN x)) := by
 rw [get_of (P := Tryz.prog) (z := .c (.int .i64 0)) (e := encFt) (p := fun y => decide (tB x = y.1)) (l := fnTab) (kt := 9) (k := .c (.str (tB x))) kRf (findA_str (tB x) (fun y : ByteArray × Int => y.1) (fun y : ByteArray × Int => .c (.int .i64 y.2)) fnTab)]
 unfold fnTab fnN
 simp only [List.find?_cons, List.find?_nil, tB_inj]
 by_cases h1 : x = wMin
 ·subst h1; rfl
 by_cases h2 : x = wMax
 ·subst h2; rfl
 by_cases h3 : x = wAbs
 ·subst h3; rfl
 by_cases h4 : x = wGd
 ·subst h4; rfl
 by_cases h5 : x = wIf
 ·subst h5; rfl
 simp [h1, h2, h3, h4, h5]
theorem functionQ_a (x : List UInt8) (hk : K (.c (.int .i64 (fnN x))) H) : ACalls Tryz.prog 59 [(.c (.str (tB x)))] H K := by
 have hget := fnTab_get x
 refine acalls Tryz.func59 rfl kRf gT (fun hH => ?_)
 refine gO2 mapK_fq mapZ_fq ?_
 refine mup_mp (es' := (fnTab.take 1).map encFt) kRf kRf ?_
 refine gO2 mapK_fq mapZ_fq ?_
 refine mup_mp (es' := (fnTab.take 2).map encFt) kRf kRf ?_
 refine gO2 mapK_fq mapZ_fq ?_
 refine mup_mp (es' := (fnTab.take 3).map encFt) kRf kRf ?_
 refine gO2 mapK_fq mapZ_fq ?_
 refine mup_mp (es' := (fnTab.take 4).map encFt) kRf kRf ?_
 refine gO2 mapK_fq mapZ_fq ?_
 refine mup_mp (es' := fnTab.map encFt) kRf kRf ?_
 refine gO2 mapK_fq mapZ_fq ?_
 refine look_mp kRf hget rfl ?_
 refine gO ?_
 exact Ret.drop hH lRf trivial hk
theorem nextQ_a {i : Nat} {t : Tok} {T : List Tok} {d dp bad : Int} (hi : H[i]? = some (psQ (t :: T) d dp bad)) (hk : K (.c (.int .u8 (qK t))) H) : ACalls Tryz.prog 171 [.c (.ptr (some (i, 0, 0)))] H K := by
 unfold psQ at hi
 refine acalls Tryz.func171 rfl kRf gT (fun hH => ?_)
 refine gO1 hi ?_
 exact Ret.same lRf hk
theorem failQ_a {i : Nat} {t : Tok} {T : List Tok} {d dp : Int} (hi : H[i]? = some (psQ (t :: T) d dp (-1))) (hk : K (.agg trQ0) (H.set i (psQ (t :: T) d dp t.o))) : ACalls Tryz.prog 172 [.c (.ptr (some (i, 0, 0)))] H K := by
 have hil := getElem?_lt hi
 unfold psQ at hi hk
 refine acalls Tryz.func172 rfl kRf gT (fun hH => ?_)
 refine gO1 hi ?_
 exact Ret.drop (HOk.psQ (T := t :: T) (d := d) (dp := dp) (bad := t.o) hH) sMp oKs hk
theorem failQ_bad {i : Nat} {T : List Tok} {d dp : Int} {e : Nat} (hi : H[i]? = some (psQ T d dp e)) (hk : K (.agg trQ0) H) : ACalls Tryz.prog 172 [.c (.ptr (some (i, 0, 0)))] H K := by
 have hil := getElem?_lt hi
 unfold psQ at hi
 refine acalls Tryz.func172 rfl kRf gT (fun hH => ?_)
 refine gO1 hi ?_
 exact Ret.drop hH lRf (by simp [trQ0, AV.ok, AV.ok1, AC.ok]) hk
theorem takeQ_a {i : Nat} {t : Tok} {T : List Tok} {d dp : Int} (hT : T ≠ []) (h36 : ¬ qK t = 36) (hi : H[i]? = some (psQ (t :: T) d dp (-1))) (hk : K (.agg (encQ t)) (H.set i (psQ T d (deepF d dp t) (-1)))) : ACalls Tryz.prog 224 [.c (.ptr (some (i, 0, 0)))] H K := by
 have hil := getElem?_lt hi
 have hTl : 0 < T.length := List.length_pos_iff.2 hT
 unfold psQ at hi hk
 by_cases h2 : dp < 0
 ·by_cases h3 : 20 < d
  ·have hd : deepF d dp t = t.o := by unfold deepF; rw [if_pos ⟨h2, h3⟩]
   rw [hd] at hk
   refine acalls Tryz.func224 rfl kRf gT (fun hH => ?_)
   simp (disch := first | omega | (simp only [go_sem]; try omega)) only [go_sem, hi, h2, h3, h36, hTl]
   exact Ret.drop (HOk.psQ hH) sMp oKs hk
  ·have hd : deepF d dp t = dp := by unfold deepF; rw [if_neg (fun h => h3 h.2)]
   rw [hd] at hk
   refine acalls Tryz.func224 rfl kRf gT (fun hH => ?_)
   simp (disch := first | omega | (simp only [go_sem]; try omega)) only [go_sem, hi, h2, h3, h36, hTl]
   exact Ret.drop (HOk.psQ hH) sMp oKs hk
 ·have hd : deepF d dp t = dp := by unfold deepF; rw [if_neg (fun h => h2 h.1)]
  rw [hd] at hk
  refine acalls Tryz.func224 rfl kRf gT (fun hH => ?_)
  refine gO4 hi h2 h36 hTl ?_
  exact Ret.drop (HOk.psQ hH) sMp oKs hk
theorem qK_k {l : List UInt8} {t : Tok} (h : tkOk l t) : (qK t = 36 ↔ t.k = 0) ∧ (qK t = 110 ↔ t.k = 1) ∧ (qK t = 119 ↔ t.k = 2) ∧ ∀ ops : List UInt8, (∀ c ∈ ops, c ∈ sgnL) → decide (qB t ∈ ops) = (sgT t ops).isSome := by
 have key : ∀ c ∈ sgnL, c.toNat ≠ 36 ∧ c.toNat ≠ 110 ∧ c.toNat ≠ 119 := by decide
 have no : ∀ (b : UInt8), b ∉ sgnL → ∀ ops : List UInt8, (∀ c ∈ ops, c ∈ sgnL) → decide (b ∈ ops) = false := fun b hb ops ho => decide_eq_false fun hm => hb (ho b hm)
 unfold qK qB sgT
 rcases h.2.2 with h | h | h | h | h
 ·rw [h.1]
  exact ⟨by simp, by simp, by simp, fun ops ho => by simpa using no 36 (by decide) ops ho⟩
 ·rw [h.1]
  exact ⟨by simp, by simp, by simp, fun ops ho => by simpa using no 110 (by decide) ops ho⟩
 ·rw [h.1]
  exact ⟨by simp, by simp, by simp, fun ops ho => by simpa using no 119 (by decide) ops ho⟩
 ·obtain ⟨c, hc, hx⟩ := h.2
  have := key c hc
  rw [h.1, hx]
  refine ⟨by simp; omega, by simp; omega, by simp; omega, fun ops ho => ?_⟩
  simp only [List.headD_cons]
  by_cases hm : c ∈ ops
  ·simp [hm]
  ·simp [hm]
 ·rw [h.1]
  exact ⟨by simp, by simp, by simp, fun ops ho => by simpa using no 63 (by decide) ops ho⟩
theorem qK_sg {l : List UInt8} {t : Tok} (h : tkOk l t) (c : UInt8) (hc : c ∈ sgnL) (n : Int) (hn : n = (c.toNat : Int)) : (qK t = n) ↔ (sgT t [c]).isSome = true := by
 subst hn
 have := (qK_k h).2.2.2 [c] (by simpa using hc)
 rw [← this, decide_eq_true_eq, List.mem_singleton]
 unfold qK
 constructor
 ·intro h
  apply UInt8.toNat_inj.1
  omega
 ·intro h; rw [h]
theorem tl_ne {l : List UInt8} {t : Tok} {T : List Tok} (hT : Tl l (t :: T)) (hk : t.k ≠ 0 ∧ t.k ≠ 4) : T ≠ [] := by
 obtain ⟨u, T1, e, _⟩ := (hT.next hk).1.head
 rw [e]; simp
theorem needQ_ok {l : List UInt8} {i : Nat} {t : Tok} {T : List Tok} {d dp : Int} (c : UInt8) (n : Int) (hn : n = (c.toNat : Int)) (hc : c ∈ sgnL) (hT : Tl l (t :: T)) (hs : (sgT t [c]).isSome = true) (hi : H[i]? = some (psQ (t :: T) d dp (-1))) (hk : K (.c (.bool true)) (H.set i (psQ T d (deepF d dp t) (-1)))) : ACalls Tryz.prog 288 [.c (.ptr (some (i, 0, 0))), .c (.int .u8 n)] H K := by
 have hil := getElem?_lt hi
 have hi' := hi
 have hk3 := sgT_is hs
 have hq := (qK_sg hT.ok c hc n hn).2 hs
 have h36 : ¬ qK t = 36 := fun h => by have := (qK_k hT.ok).1.1 h; omega
 unfold psQ at hi
 refine acalls Tryz.func288 rfl kRf gT (fun hH => ?_)
 refine gO1 hi ?_
 refine nextQ_a hi' ?_
 refine gO1 hq ?_
 refine takeQ_a (tl_ne hT oMg) h36 hi' ?_
 refine gO ?_
 exact Ret.same sMp hk
theorem needQ_no {l : List UInt8} {i : Nat} {t : Tok} {T : List Tok} {d dp : Int} (c : UInt8) (n : Int) (hn : n = (c.toNat : Int)) (hc : c ∈ sgnL) (hT : tkOk l t) (hs : (sgT t [c]).isSome = false) (hi : H[i]? = some (psQ (t :: T) d dp (-1))) (hk : K (.c (.bool false)) (H.set i (psQ (t :: T) d dp t.o))) : ACalls Tryz.prog 288 [.c (.ptr (some (i, 0, 0))), .c (.int .u8 n)] H K := by
 have hil := getElem?_lt hi
 have hi' := hi
 have hq : ¬ qK t = n := fun h => by have := (qK_sg hT c hc n hn).1 h; rw [hs] at this; cases this
 unfold psQ at hi
 refine acalls Tryz.func288 rfl kRf gT (fun hH => ?_)
 refine gO1 hi ?_
 refine nextQ_a hi' ?_
 refine gO1 hq ?_
 refine failQ_a hi' ?_
 refine gO ?_
 exact Ret.same sMp hk
theorem needQ_bad {i : Nat} {T : List Tok} {d dp : Int} {e : Nat} (n : Int) (hi : H[i]? = some (psQ T d dp e)) (hk : K (.c (.bool false)) H) : ACalls Tryz.prog 288 [.c (.ptr (some (i, 0, 0))), .c (.int .u8 n)] H K := by
 have hi' := hi
 unfold psQ at hi
 refine acalls Tryz.func288 rfl kRf gT (fun hH => ?_)
 refine gO1 hi ?_
 refine failQ_bad hi' ?_
 refine gO ?_
 exact Ret.same lRf hk
theorem closeQ_ok {l : List UInt8} {i : Nat} {t : Tok} {T : List Tok} {d dp : Int} (hd : 0 ≤ d ∧ d ≤ 100000) (hT : Tl l (t :: T)) (hs : (sgT t [41]).isSome = true) (hi : H[i]? = some (psQ (t :: T) d dp (-1))) (hk : K (.tup []) (H.set i (psQ T d (deepF (d + 1) dp t) (-1)))) : ACalls Tryz.prog 265 [.c (.ptr (some (i, 0, 0)))] H K := by
 have hil := getElem?_lt hi
 have hw1 : IntKind.i64.wrap (d + 1) = d + 1 := by rw [IntKind.wrap_i64]; omega
 have hw2 : IntKind.i64.wrap (d + 1 - 1) = d := by rw [IntKind.wrap_i64]; omega
 unfold psQ at hi
 refine acalls Tryz.func265 rfl kRf gT (fun hH => ?_)
 refine gO2 hi hw1 ?_
 refine needQ_ok (t := t) (T := T) (d := d + 1) (dp := dp) 41 41 rfl (by decide) hT hs (List.getElem?_set_self hil) ?_
 unfold psQ at hk ⊢
 refine gO1 hw2 ?_
 exact Ret.same sMp hk
theorem closeQ_no {l : List UInt8} {i : Nat} {t : Tok} {T : List Tok} {d dp : Int} (hd : 0 ≤ d ∧ d ≤ 100000) (hT : tkOk l t) (hs : (sgT t [41]).isSome = false) (hi : H[i]? = some (psQ (t :: T) d dp (-1))) (hk : K (.tup []) (H.set i (psQ (t :: T) d dp t.o))) : ACalls Tryz.prog 265 [.c (.ptr (some (i, 0, 0)))] H K := by
 have hil := getElem?_lt hi
 have hw1 : IntKind.i64.wrap (d + 1) = d + 1 := by rw [IntKind.wrap_i64]; omega
 have hw2 : IntKind.i64.wrap (d + 1 - 1) = d := by rw [IntKind.wrap_i64]; omega
 unfold psQ at hi
 refine acalls Tryz.func265 rfl kRf gT (fun hH => ?_)
 refine gO2 hi hw1 ?_
 refine needQ_no (t := t) (T := T) (d := d + 1) (dp := dp) 41 41 rfl (by decide) hT hs (List.getElem?_set_self hil) ?_
 unfold psQ at hk ⊢
 refine gO1 hw2 ?_
 exact Ret.same sMp hk
theorem closeQ_bad {i : Nat} {T : List Tok} {d dp : Int} {e : Nat} (hi : H[i]? = some (psQ T d dp e)) (hk : ∀ d', K (.tup []) (H.set i (psQ T d' dp e))) : ACalls Tryz.prog 265 [.c (.ptr (some (i, 0, 0)))] H K := by
 have hil := getElem?_lt hi
 unfold psQ at hi
 refine acalls Tryz.func265 rfl kRf gT (fun hH => ?_)
 refine gO1 hi ?_
 refine needQ_bad (T := T) (d := IntKind.i64.wrap (d + 1)) (dp := dp) (e := e) 41 (List.getElem?_set_self hil) ?_
 have hk := hk (IntKind.i64.wrap (IntKind.i64.wrap (d + 1) - 1))
 unfold psQ at hk
 refine gO ?_
 exact Ret.same sMp hk
theorem smallQ_a {l : List UInt8} (hl : l.length ≤ 1000) {t : Tok} (ht : tkOk l t) (most : Int) (hk : ∀ v : Int, (∀ n, numF t.x 9 = some n → t.k ≠ 4 → v = n) → K (.tup [(.c (.int .i64 v)), (.c (.bool ((numF (qX t) 9).isSome && decide (v ≤ most))))]) H) : ACalls Tryz.prog 264 [.agg (encQ t), (.c (.int .i64 most))] H K := by
 have h1 := ht.1
 have hx : (qX t).length ≤ 1000 := by
  unfold qX
  split
  ·simp
  ·omega
 refine acalls Tryz.func264 rfl kRf gT (fun hH => ?_)
 refine gO ?_
 refine numR_a (qX t) 9 oMg oMg (fun v hv => ?_)
 have hk := hk v (fun n hn h4 => hv n (by unfold qX; rw [if_neg h4]; exact hn))
 cases hs : (numF (qX t) 9).isSome with
 | true =>
  rw [hs] at hk
  refine gO ?_
  exact Ret.drop hH lRf oKs hk
 | false =>
  rw [hs] at hk
  refine gO ?_
  exact Ret.drop hH lRf oKs hk
theorem key_tok {l : List UInt8} {t : Tok} (ht : tkOk l t) (h2 : t.k = 2) : decide (isKey (tB t.x)) = decide (t.x.length ≤ 40) := by
 congr 1
 rw [eq_iff_iff]
 obtain ⟨h3, h4, h5⟩ : t.x ≠ [] ∧ (∀ c ∈ t.x, isWd c = true) ∧ ∃ c, t.x.head? = some c ∧ isSm c = true := by
  rcases ht.2.2 with h | h | h | h | h
  ·omega
  ·omega
  ·exact h.2
  ·omega
  ·omega
 have hpos : 0 < t.x.length := List.length_pos_iff.2 h3
 unfold isKey
 rw [tB_size]
 constructor
 ·intro h; exact h.2.1
 ·intro h
  refine ⟨hpos, h, ?_, fun i hi => ?_⟩
  ·obtain ⟨c, hc1, hc2⟩ := h5
   rw [byte_at hpos]
   have : t.x[0] = c := by
    rw [List.head?_eq_getElem?, List.getElem?_eq_getElem hpos] at hc1
    exact Option.some.inj hc1
   rw [this]
   unfold isSm at hc2
   rw [decide_eq_true_eq] at hc2
   omega
  ·rw [byte_at hi]
   have hw := h4 _ (List.getElem_mem hi)
   generalize t.x[i] = c at *
   unfold isWd isDg isSm at hw
   rw [Bool.or_eq_true, Bool.or_eq_true, decide_eq_true_eq, decide_eq_true_eq, decide_eq_true_eq] at hw
   unfold keyN
   omega
end Go.Proofs.YtagoolooikpabaaGreatDoor
namespace Go.Proofs.YtagoolooikpabaaGreatDoor
open Go Go.RowKit
set_option maxRecDepth 100000
set_option maxHeartbeats 2000000
variable {H : Hp} {K : AV → Hp → Prop}
def encT : Ex → List AC
 | .num n => [.int .u8 110, .str ⟨#[]⟩, .int .i64 n, .sl none 0, .int .i64 0]
 | .tag x s => [.int .u8 119, .str (tB x), .int .i64 0, .sl none 0, .int .i64 (s.getD (-1))]
 | .neg a => [.int .u8 109, .str ⟨#[]⟩, .int .i64 0, .lst 5 [encT a], .int .i64 0]
 | .bin c a b => [.int .u8 c.toNat, .str ⟨#[]⟩, .int .i64 0, .lst 5 [encT a, encT b], .int .i64 0]
 | .f1 f a => [.int .u8 102, .str (tB f), .int .i64 0, .lst 5 [encT a], .int .i64 0]
 | .f2 f a b => [.int .u8 102, .str (tB f), .int .i64 0, .lst 5 [encT a, encT b], .int .i64 0]
 | .f3 f a b c => [.int .u8 102, .str (tB f), .int .i64 0, .lst 5 [encT a, encT b, encT c], .int .i64 0]
def okT (cs : List AC) : Prop := cs.length = 5 ∧ cs.all AC.pure = true
theorem encT_ok (e : Ex) : okT (encT e) := by cases e <;> exact ⟨rfl, rfl⟩
theorem okT.cells {cs : List AC} (h : okT cs) : ∃ a b c d e, cs = [a, b, c, d, e] ∧ a.pure = true ∧ b.pure = true ∧ c.pure = true ∧ d.pure = true ∧ e.pure = true := by
 obtain ⟨h1, h2⟩ := h
 match cs, h1 with
 | [a, b, c, d, e], _ =>
  simp only [List.all_cons, List.all_nil, Bool.and_true, Bool.and_eq_true] at h2
  exact ⟨a, b, c, d, e, rfl, h2.1, h2.2.1, h2.2.2.1, h2.2.2.2.1, h2.2.2.2.2⟩
theorem okT.ok {cs : List AC} (h : okT cs) (n : Nat) : (AV.agg cs).ok n := fun x hx => AC.ok_of_pure (List.all_eq_true.1 h.2 x hx) n
theorem okT.row {cs : List AC} (h : okT cs) (n : Nat) (ty : Nat) (own : Bool) : (AObj.row ty 5 [cs] own).okN n := by
 intro e he
 rw [List.mem_singleton] at he
 subst he
 exact ⟨h.1, fun x hx => AC.ok_of_pure (List.all_eq_true.1 h.2 x hx) n⟩
def RdQ (l : List UInt8) (f : FuncId) (args : List AV) (i : Nat) (side : Hp → Prop) (n : Nat) (d : Int) (rd : List Tok → Int → PR Ex) : Prop :=
 ∀ (H : Hp) (K : AV → Hp → Prop) (T : List Tok) (dp : Int), H[i]? = some (psQ T d dp (-1)) → side H → Tl l T → T.length ≤ n →
  (∀ x T' dp', rd T dp = .ok (x, T', dp') → K (.agg (encT x)) (H.set i (psQ T' d dp' (-1)))) →
  (∀ (e : Nat) (T' : List Tok) (d' dp' : Int) (cs : List AC), rd T dp = .error e → okT cs → K (.agg cs) (H.set i (psQ T' d' dp' e))) →
  ACalls Tryz.prog f args H K
structure QEr where
 e : Nat
 cs : List AC
 T : List Tok
 d : Int
 dp : Int
def qV : JS ⊕ QEr → List AC
 | .inl q => encT q.x
 | .inr q => q.cs
def qO (d : Int) : JS ⊕ QEr → AObj
 | .inl q => psQ q.T d q.dp (-1)
 | .inr q => psQ q.T q.d q.dp q.e
def qI (l : List UInt8) (ops : List UInt8) (rd : List Tok → Int → PR Ex) (d : Int) (N : Nat) (res : PR Ex) : JS ⊕ QEr → Prop
 | .inl q => rowF ops rd d q.m q.x q.T q.dp = res ∧ Tl l q.T ∧ q.T.length ≤ N ∧ q.T.length ≤ q.m
 | .inr q => res = .error q.e ∧ okT q.cs
def qM : JS ⊕ QEr → Nat
 | .inl q => q.T.length + 1
 | .inr _ => 0
@[go_sem] def zT : List AC := [.int .u8 0, .str ⟨#[]⟩, .int .i64 0, .sl none 0, .int .i64 0]
theorem WkL.binT {A : Hp} {m n p ty ty2 ty3 : Nat} {c : UInt8} {x y z b : List AC} {o1 o2 o3 o4 : Bool} (hA : HOk A) (hz : okT z) (hx : okT x) (hy : okT y) (hm : m ≤ A.length + 2) (hn : n = A.length + 3) :
  WkL m [] (A ++ [.row ty 5 [z] o1, .row ty2 5 [[.int .u8 c.toNat, .str ⟨#[]⟩, .int .i64 0, .sl (some (n, 0)) 2, .int .i64 0]] o2, .row ty3 5 [b] o3, .row p 5 [x, y] o4]) [] (A ++ [.row ty 5 [z] o1, .row ty2 5 [[.int .u8 c.toNat, .str ⟨#[]⟩, .int .i64 0, .lst 5 [x, y], .int .i64 0]] o2]) := by
 subst hn
 have hp : pureL [x, y] = true := by
  unfold pureL
  simp only [List.all_cons, List.all_nil, Bool.and_true, Bool.and_eq_true]
  exact ⟨hx.2, hy.2⟩
 refine (WkL.frzO (i := A.length + 3) (j := A.length + 1) (ty := p) (sz := 5) (els := [x, y]) (own := o4) (ty2 := ty2) (sz2 := 5) (els2 := [[.int .u8 c.toNat, .str ⟨#[]⟩, .int .i64 0, .sl (some (A.length + 3, 0)) 2, .int .i64 0]]) (own2 := o2) sMp hp (by simp; omega) sMp oMg).trans ?_
 rw [List.set_append_right _ _ oMg, List.set_append_right _ _ oMg]
 simp only [Nat.add_sub_cancel_left, List.set_cons_succ, List.set_cons_zero, List.map_cons, List.map_nil, AC.frzX, if_true, List.length_cons, List.length_nil]
 refine WkL.keepL hA rfl (by simpa using hm) rfl ?_ sMp
 intro o ho
 simp only [List.mem_cons, List.not_mem_nil, or_false] at ho
 rcases ho with rfl | rfl
 ·exact hz.row _ _ _
 ·intro e he
  rw [List.mem_singleton] at he
  subst he
  refine ⟨rfl, fun w hw => ?_⟩
  simp only [List.mem_cons, List.not_mem_nil, or_false] at hw
  rcases hw with rfl | rfl | rfl | rfl | rfl <;> simp [AC.ok]
theorem lit2 {x y : List AC} (hx : x.length = 5) (hy : y.length = 5) : litEls 5 0 [(0, AV.agg x), (1, AV.agg y)] = some [x, y] := by simp [litEls, AV.cells, hx, hy]
theorem lit1 {x : List AC} (hx : x.length = 5) : litEls 5 0 [(0, AV.agg x)] = some [x] := by simp [litEls, AV.cells, hx]
theorem zT_ok : okT zT := ⟨rfl, rfl⟩
theorem row_a {l : List UInt8} (hl : l.length ≤ 1000) {f : FuncId} {fs cs : List (Nat × Nat × Nat)} {i : Nat} {side : Hp → Prop} {n : Nat} {d : Int} {rd : List Tok → Int → PR Ex} (hent : entersB Tryz.prog f = true) (hrd : RdQ l f (fs.map (fun p => AV.c (.ptr (some p))) ++ cs.map (fun p => AV.c (.ptr (some p)))) i side n d rd) (hg : RdG l rd) (ops : List UInt8) (ho : ∀ c ∈ ops, c ∈ sgnL) (T : List Tok) (dp : Int)
  (hi : H[i]? = some (psQ T d dp (-1))) (hsd : ∀ (X : AObj) (G : Hp), side (H.set i X ++ G)) (hsd0 : ∀ G : Hp, side (H ++ G)) (hT : Tl l T) (hn : T.length ≤ n) (hfs : ∀ p ∈ fs, p.1 < H.length) (hcs : ∀ p ∈ cs, p.1 < H.length)
  (hk1 : ∀ x T' dp', joinF ops true rd d T dp = .ok (x, T', dp') → K (.agg (encT x)) (H.set i (psQ T' d dp' (-1))))
  (hk2 : ∀ (e : Nat) (T' : List Tok) (d' dp' : Int) (cs : List AC), joinF ops true rd d T dp = .error e → okT cs → K (.agg cs) (H.set i (psQ T' d' dp' e))) :
  ACalls Tryz.prog 221 [.c (.ptr (some (i, 0, 0))), (.c (.str (tB ops))), .c (.fn f fs cs)] H K := by
 have hil := getElem?_lt hi
 have hat0 : ∀ G : Hp, (H ++ G)[i]? = some (psQ T d dp (-1)) := fun G => by rw [List.getElem?_append_left hil]; exact hi
 have hset0 : ∀ (X : AObj) (G : Hp), (H ++ G).set i X = H.set i X ++ G := fun X G => by rw [List.set_append_left _ _ hil]
 have hat : ∀ (X : AObj) (G : Hp), (H.set i X ++ G)[i]? = some X := fun X G => by rw [List.getElem?_append_left (by simpa using hil), List.getElem?_set_self hil]
 have hset : ∀ (X Y : AObj) (G : Hp), (H.set i X ++ G).set i Y = H.set i Y ++ G := fun X Y G => by rw [List.set_append_left _ _ (by simpa using hil), List.set_set]
 refine acalls Tryz.func221 rfl kRf gT (fun hH => ?_)
 refine gO1 hent ?_
 refine hrd _ _ T dp (hat0 _) (hsd0 _) hT hn (fun x T1 dp1 h1 => ?_) (fun e T' d' dp' cs h1 hcs => ?_)
 ·obtain ⟨g1, g2, g3⟩ := hg _ _ _ _ _ hT h1
  have hj : joinF ops true rd d T dp = rowF ops rd d T1.length x T1 dp1 := by unfold joinF; rw [h1]; rfl
  rw [hj] at hk1 hk2
  obtain ⟨res, hres⟩ : ∃ res, res = rowF ops rd d T1.length x T1 dp1 := ⟨_, rfl⟩
  rw [← hres] at hk1 hk2
  have hex : ∀ x, (encT x).length = 5 := fun x => (encT_ok x).1
  have hte : ∀ x, (encT x).take 5 = encT x := fun x => List.take_of_length_le (by rw [hex]; exact Nat.le_refl _)
  have hde : ∀ x, (encT x).drop 5 = [] := fun x => List.drop_eq_nil_of_le (by rw [hex]; exact Nat.le_refl _)
  have hokO : ∀ s : JS ⊕ QEr, HOk (H.set i (qO d s)) := fun s => HOk.set hH (by cases s <;> exact psQ_ok _)
  have hvO : ∀ s : JS ⊕ QEr, qI l ops rd d T1.length res s → okT (qV s) := fun s hs => by
   cases s with
   | inl q => exact encT_ok _
   | inr q => exact hs.2
  have hfs2 : ∀ p ∈ fs, p.1 < H.length + 2 := fun p hp => by have := hfs p hp; omega
  have hcs2 : ∀ p ∈ cs, p.1 < H.length + 2 := fun p hp => by have := hcs p hp; omega
  rw [hset0]
  refine gO1 hex ?_
  refine AWp.loop (H.length + 2) [0, 1, 2, 6, 7] [] (fun (s : JS ⊕ QEr) => qI l ops rd d T1.length res s) (fun (s : JS ⊕ QEr) => []) (fun (s : JS ⊕ QEr) => H.set i (qO d s) ++ [.row 173 5 [zT] true, .row 173 5 [qV s] true]) (fun (s : JS ⊕ QEr) => qM s) kRf (fun _ => rfl) kRf sOo sOm kl ?_ (fun s q _ _ => ?_)
  ·refine Next.mk (.inl ⟨x, T1, dp1, T1.length⟩) ⟨hres.symm, g2, Nat.le_refl _, Nat.le_refl _⟩ ?_
   exact WkL.refl sMp
  have hq5 := (hvO s q).1
  rcases s with ⟨x, T, dp, m⟩ | ⟨e, cs, T', d', dp'⟩
  ·obtain ⟨q1, q2, q3, q4⟩ := q
   dsimp only at q1 q2 q3 q4
   obtain ⟨t, T2, rfl, htk, _⟩ := q2.head
   obtain ⟨m', rfl⟩ : ∃ m', m = m' + 1 := ⟨m - 1, by rw [List.length_cons] at q4; omega⟩
   have hstep : rowF ops rd d (m' + 1) x (t :: T2) dp = match sgT t ops with
    | none => .ok (x, t :: T2, dp)
    | some c => match rd T2 (deepF d dp t) with
     | .error e => .error e
     | .ok (y, T3, dp3) => rowF ops rd d m' (.bin c x y) T3 dp3 := rfl
   rw [q1] at hstep
   have hqk := qK_k htk
   rw [show qO d (.inl ⟨x, t :: T2, dp, m' + 1⟩) = .row 243 4 [[.lst 3 ((t :: T2).map encQ), .int .i64 d, .int .i64 (-1), .int .i64 dp]] true from rfl, show qV (.inl ⟨x, t :: T2, dp, m' + 1⟩) = encT x from rfl]
   refine gO1 hent ?_
   refine nextQ_a (t := t) (T := T2) (d := d) (dp := dp) (bad := -1) (hat _ _) ?_
   refine gO ?_
   refine ixb_a (tB ops) ops rfl (qB t) ?_
   refine gO ?_
   rw [ix_mem, hqk.2.2.2 ops ho]
   cases hsg : sgT t ops with
   | some c =>
    rw [hsg] at hstep
    dsimp only at hstep
    obtain ⟨s1, s2, s3⟩ := sgT_some hsg
    have hT2 : Tl l T2 := (q2.next oMg).1
    have hqc : qK t = c.toNat := by unfold qK qB; rw [s1, s2]; rfl
    refine gO ?_
    refine takeQ_a (t := t) (T := T2) (d := d) (dp := dp) (tl_ne q2 oMg) (fun h => by have := hqk.1.1 h; omega) (hat _ _) ?_
    rw [hset]
    rw [List.length_cons] at q3 q4
    refine gO2 hent hqc ?_
    refine hrd _ _ T2 (deepF d dp t) (hat _ _) (hsd _ _) hT2 oMg (fun y T3 dp3 hy => ?_) (fun e T' d' dp' cs hy hcs => ?_)
    ·rw [hy] at hstep
     dsimp only at hstep
     obtain ⟨r1, r2, r3⟩ := hg _ _ _ _ _ hT2 hy
     rw [hset]
     have hlit := lit2 (hex x) (hex y)
     refine gO4 hex hte hde hlit ?_
     refine Next.mk (.inl ⟨.bin c x y, T3, dp3, m'⟩) ⟨⟨hstep.symm, r2, by dsimp only; omega, by dsimp only; omega⟩, ?_⟩ ?_
     ·show T3.length + 1 < (t :: T2).length + 1
      rw [List.length_cons]
      omega
     ·have := WkL.binT (m := H.length + 2) (n := H.length + 3) (c := c) (o1 := true) (o2 := true) (o3 := true) (o4 := true) (ty := 173) (ty2 := 173) (ty3 := 173) (p := 173) (b := encT y) (hokO (Sum.inl (JS.mk (.bin c x y) T3 dp3 m'))) zT_ok (encT_ok x) (encT_ok y) sMp sMp
      refine gO ?_
      exact this
    ·rw [hy] at hstep
     dsimp only at hstep
     have hc5 := hcs.1
     have htc : cs.take 5 = cs := List.take_of_length_le (by rw [hc5]; exact Nat.le_refl _)
     rw [hset]
     have hlit := lit2 (hex x) hc5
     simp (disch := first | omega | (simp only [go_sem]; try omega)) only [go_sem, hex, hte, hde, hc5, htc, hlit]
     refine Next.mk (.inr ⟨e, [.int .u8 c.toNat, .str ⟨#[]⟩, .int .i64 0, .lst 5 [encT x, cs], .int .i64 0], T', d', dp'⟩) ⟨⟨hstep, rfl, rfl⟩, ?_⟩ ?_
     ·show 0 < (t :: T2).length + 1
      omega
     ·have := WkL.binT (m := H.length + 2) (n := H.length + 3) (c := c) (o1 := true) (o2 := true) (o3 := true) (o4 := true) (ty := 173) (ty2 := 173) (ty3 := 173) (p := 173) (b := cs) (hokO (Sum.inr (QEr.mk e [.int .u8 c.toNat, .str ⟨#[]⟩, .int .i64 0, .lst 5 [encT x, cs], .int .i64 0] T' d' dp'))) zT_ok (encT_ok x) hcs sMp sMp
      refine gO ?_
      exact this
   | none =>
    rw [hsg] at hstep
    have hk := hk1 _ _ _ hstep
    refine gO2 hex hte ?_
    exact Ret.drop (HOk.psQ (T := t :: T2) (d := d) (dp := dp) (bad := -1) hH) sMp ((encT_ok x).ok _) hk
  ·obtain ⟨hr, hcs⟩ := q
   have hcs : okT cs := hcs
   have hk := hk2 e T' d' dp' cs hr hcs
   rw [show qO d (.inr ⟨e, cs, T', d', dp'⟩) = .row 243 4 [[.lst 3 (T'.map encQ), .int .i64 d', .int .i64 e, .int .i64 dp']] true from rfl, show qV (.inr ⟨e, cs, T', d', dp'⟩) = cs from rfl]
   have hc5 := hcs.1
   have htc : cs.take 5 = cs := List.take_of_length_le (by rw [hc5]; exact Nat.le_refl _)
   refine gO2 hc5 htc ?_
   exact Ret.drop (HOk.psQ (T := T') (d := d') (dp := dp') (bad := e) hH) sMp (hcs.ok _) hk
 ·have hj : joinF ops true rd d T dp = .error e := by unfold joinF; rw [h1]
  have hk := hk2 e T' d' dp' cs hj hcs
  obtain ⟨a0, a1, a2, a3, a4, rfl, _⟩ := hcs.cells
  rw [hset0]
  unfold psQ at hk ⊢
  refine gO ?_
  refine AWp.rounds 0 kRf ?_
  refine gO ?_
  exact Ret.drop (HOk.psQ hH) sMp (hcs.ok _) hk
end Go.Proofs.YtagoolooikpabaaGreatDoor
namespace Go.Proofs.YtagoolooikpabaaGreatDoor
open Go Go.RowKit
set_option maxRecDepth 100000
set_option maxHeartbeats 2000000
variable {H : Hp} {K : AV → Hp → Prop}
def noSide : Hp → Prop := fun _ => True
def cellP (i : Nat) : AObj := .row 239 1 [[.ptr (some (i, 0, 0))]] true
def sideC (c i : Nat) : Hp → Prop := fun H => H[c]? = some (cellP i)
theorem prodQ1_a {l : List UInt8} (hl : l.length ≤ 1000) {i c n : Nat} (hci : c ≠ i) {d : Int} {fc : Int → List Tok → Int → PR Ex} (hf : RdQ l 223 [.c (.ptr (some (i, 0, 0)))] i noSide n d (fc d)) (hg : RdG l (fc d)) : RdQ l 222 [.c (.ptr (some (c, 0, 0)))] i (sideC c i) n d (prodG fc d) := by
 intro H K T dp hi hs hT hn hk1 hk2
 have hil := getElem?_lt hi
 have hcl := getElem?_lt hs
 have hset0 : ∀ (X : AObj) (G : Hp), (H ++ G).set i X = H.set i X ++ G := fun X G => by rw [List.set_append_left _ _ hil]
 have hs' : H[c]? = some (.row 239 1 [[.ptr (some (i, 0, 0))]] true) := hs
 refine acalls Tryz.func222 rfl kRf gT (fun hH => ?_)
 refine gO1 hs' ?_
 refine row_a hl (fs := [(i, 0, 0)]) (cs := []) (side := noSide) kRf hf hg [42, 47] (by decide) T dp (by rw [List.getElem?_append_left hil]; exact hi) (fun _ _ => trivial) (fun _ => trivial) hT hn (by simp; omega) sMp (fun x T' dp' h => ?_) (fun e T' d' dp' cs h hcs => ?_)
 ·have hk := hk1 x T' dp' h
  have h5 := (encT_ok x).1
  have h6 : (encT x).take 5 = encT x := List.take_of_length_le oMg
  rw [hset0]
  refine gO2 h5 h6 ?_
  exact Ret.drop (HOk.psQ hH) sMp ((encT_ok x).ok _) hk
 ·have hk := hk2 e T' d' dp' cs h hcs
  have h5 := hcs.1
  have h6 : cs.take 5 = cs := List.take_of_length_le oMg
  rw [hset0]
  refine gO2 h5 h6 ?_
  exact Ret.drop (HOk.psQ hH) sMp (hcs.ok _) hk
theorem prodQ2_a {l : List UInt8} (hl : l.length ≤ 1000) {i c n : Nat} (hci : c ≠ i) {d : Int} {fc : Int → List Tok → Int → PR Ex} (hf : RdQ l 223 [.c (.ptr (some (i, 0, 0)))] i noSide n d (fc d)) (hg : RdG l (fc d)) : RdQ l 225 [.c (.ptr (some (c, 0, 0)))] i (sideC c i) n d (prodG fc d) := by
 intro H K T dp hi hs hT hn hk1 hk2
 have hil := getElem?_lt hi
 have hcl := getElem?_lt hs
 have hset0 : ∀ (X : AObj) (G : Hp), (H ++ G).set i X = H.set i X ++ G := fun X G => by rw [List.set_append_left _ _ hil]
 have hs' : H[c]? = some (.row 239 1 [[.ptr (some (i, 0, 0))]] true) := hs
 refine acalls Tryz.func225 rfl kRf gT (fun hH => ?_)
 refine gO1 hs' ?_
 refine row_a hl (fs := [(i, 0, 0)]) (cs := []) (side := noSide) kRf hf hg [42, 47] (by decide) T dp (by rw [List.getElem?_append_left hil]; exact hi) (fun _ _ => trivial) (fun _ => trivial) hT hn (by simp; omega) sMp (fun x T' dp' h => ?_) (fun e T' d' dp' cs h hcs => ?_)
 ·have hk := hk1 x T' dp' h
  have h5 := (encT_ok x).1
  have h6 : (encT x).take 5 = encT x := List.take_of_length_le oMg
  rw [hset0]
  refine gO2 h5 h6 ?_
  exact Ret.drop (HOk.psQ hH) sMp ((encT_ok x).ok _) hk
 ·have hk := hk2 e T' d' dp' cs h hcs
  have h5 := hcs.1
  have h6 : cs.take 5 = cs := List.take_of_length_le oMg
  rw [hset0]
  refine gO2 h5 h6 ?_
  exact Ret.drop (HOk.psQ hH) sMp (hcs.ok _) hk
theorem Ret.tree {A G : Hp} {n m k j ty : Nat} {els : List (List AC)} {own : Bool} {u : Int} {s : ByteArray} {v w : Int} (hA : HOk A) (hn : n = A.length) (hj : G[j]? = some (.row ty 5 els own)) (hp : pureL els = true) (hm : m = els.length) (hk2 : k = A.length + j) (hk : K (.agg [.int .u8 u, .str s, .int .i64 v, .lst 5 els, .int .i64 w]) A) : Ret n (.agg [.int .u8 u, .str s, .int .i64 v, .sl (some (k, 0)) m, .int .i64 w]) (A ++ G) K := by
 subst hn hm hk2
 refine Ret.node1 (v' := .agg [.int .u8 u, .str s, .int .i64 v, .lst 5 els, .int .i64 w]) (els := els) j hA lRf hj hp ?_ ?_ hk
 ·simp [AV.frzX, AV.frzX1, AC.frzX]
 ·intro x hx
  simp only [List.mem_cons, List.not_mem_nil, or_false] at hx
  rcases hx with rfl | rfl | rfl | rfl | rfl <;> simp [AC.ok]
theorem pureT2 {x y : List AC} (hx : okT x) (hy : okT y) : pureL [x, y] = true := by
 unfold pureL
 simp only [List.all_cons, List.all_nil, Bool.and_true, Bool.and_eq_true]
 exact ⟨hx.2, hy.2⟩
theorem pureT1 {x : List AC} (hx : okT x) : pureL [x] = true := by
 unfold pureL
 simp only [List.all_cons, List.all_nil, Bool.and_true]
 exact hx.2
theorem compareQ_a {l : List UInt8} (hl : l.length ≤ 1000) {i n : Nat} {d : Int} {fc : Int → List Tok → Int → PR Ex} (hf : RdQ l 223 [.c (.ptr (some (i, 0, 0)))] i noSide n d (fc d)) (hg : RdG l (fc d)) : RdQ l 170 [.c (.ptr (some (i, 0, 0)))] i noSide n d (compG fc d) := by
 intro H K T dp hi hs hT hn hk1 hk2
 have hil := getElem?_lt hi
 have hset0 : ∀ (X : AObj) (G : Hp), (H ++ G).set i X = H.set i X ++ G := fun X G => by rw [List.set_append_left _ _ hil]
 have hat0 : ∀ G : Hp, (H ++ G)[i]? = some (psQ T d dp (-1)) := fun G => by rw [List.getElem?_append_left hil]; exact hi
 have hset : ∀ (X Y : AObj) (G : Hp), (H.set i X ++ G).set i Y = H.set i Y ++ G := fun X Y G => by rw [List.set_append_left _ _ (by simpa using hil), List.set_set]
 have hat : ∀ (X : AObj) (G : Hp), (H.set i X ++ G)[i]? = some X := fun X G => by rw [List.getElem?_append_left (by simpa using hil), List.getElem?_set_self hil]
 have hsd : ∀ (X : AObj) (G : Hp), sideC H.length i (H.set i X ++ (cellP i :: G)) := fun X G => by
  unfold sideC
  rw [List.getElem?_append_right sMp]
  simp
 have hsd0 : ∀ G : Hp, sideC H.length i (H ++ (cellP i :: G)) := fun G => by
  unfold sideC
  rw [List.getElem?_append_right sMp]
  simp
 refine acalls Tryz.func170 rfl kRf gT (fun hH => ?_)
 refine gO ?_
 refine row_a hl (fs := []) (cs := [(H.length, 0, 0)]) (side := sideC H.length i) kRf (prodQ1_a hl oMg hf hg) (prod_good d hg) [43, 45] (by decide) T dp (hat0 _) (fun X G => by rw [hset0, List.append_assoc]; exact hsd X _) (fun G => by rw [List.append_assoc]; exact hsd0 _) hT hn sMp sMp (fun x T1 dp1 h1 => ?_) (fun e T' d' dp' cs h1 hcs => ?_)
 ·obtain ⟨g1, g2, g3⟩ := sum_good d hg _ _ _ _ _ hT h1
  have hj : compG fc d T dp = rowF [60, 61] (sumG fc d) d 1 x T1 dp1 := by unfold compG joinF; rw [show sumG fc d T dp = .ok (x, T1, dp1) from h1]; rfl
  rw [hj] at hk1 hk2
  obtain ⟨t, T2, rfl, htk, _⟩ := g2.head
  unfold rowF at hk1 hk2
  dsimp only at hk1 hk2
  have h5 := (encT_ok x).1
  have h6 : (encT x).take 5 = encT x := List.take_of_length_le oMg
  have hqk := qK_k htk
  have hq2 := hqk.2.2.2 [60, 61] (by decide)
  rw [hset0]
  rw [show ∀ G : Hp, H.set i (psQ (t :: T2) d dp1 (-1)) ++ G = H.set i (.row 243 4 [[.lst 3 ((t :: T2).map encQ), .int .i64 d, .int .i64 (-1), .int .i64 dp1]] true) ++ G from fun G => rfl]
  refine gO2 h5 h6 ?_
  refine nextQ_a (t := t) (T := T2) (d := d) (dp := dp1) (bad := -1) (hat _ _) ?_
  cases hsg : sgT t [60, 61] with
  | none =>
   rw [hsg] at hk1 hq2
   have hk := hk1 _ _ _ rfl
   have hno : ¬ qK t = 60 ∧ ¬ qK t = 61 := by
    have : qB t ∉ ([60, 61] : List UInt8) := by simpa using hq2
    simp only [List.mem_cons, List.not_mem_nil, or_false, not_or] at this
    unfold qK
    refine ⟨fun h => this.1 ?_, fun h => this.2 ?_⟩
    ·apply UInt8.toNat_inj.1
     have : (60 : UInt8).toNat = 60 := rfl
     omega
    ·apply UInt8.toNat_inj.1
     have : (61 : UInt8).toNat = 61 := rfl
     omega
   refine gO1 hno.1 ?_
   refine nextQ_a (t := t) (T := T2) (d := d) (dp := dp1) (bad := -1) (hat _ _) ?_
   refine gO3 hno.2 h5 h6 ?_
   exact Ret.drop (HOk.psQ (T := t :: T2) (d := d) (dp := dp1) (bad := -1) hH) sMp ((encT_ok x).ok _) hk
  | some c =>
   rw [hsg] at hk1 hk2
   dsimp only at hk1 hk2
   obtain ⟨s1, s2, s3⟩ := sgT_some hsg
   have hT2 : Tl l T2 := (g2.next oMg).1
   have hqc : qK t = c.toNat := by unfold qK qB; rw [s1, s2]; rfl
   have h36 : ¬ qK t = 36 := fun h => by have := hqk.1.1 h; omega
   rw [List.length_cons] at g3
   simp only [List.mem_cons, List.not_mem_nil, or_false] at s3
   rcases s3 with rfl | rfl
   case' inl =>
    have hq : qK t = 60 := hqc
    have hq0 : True := trivial
    refine gO1 hq ?_
    refine takeQ_a (t := t) (T := T2) (d := d) (dp := dp1) (tl_ne g2 oMg) h36 (by rw [← hq]; exact hat _ _) ?_
   case' inr =>
    have hq : qK t = 61 := hqc
    have hq0 : ¬ (61 : Int) = 60 := by decide
    refine gO1 hq ?_
    refine nextQ_a (t := t) (T := T2) (d := d) (dp := dp1) (bad := -1) (by rw [← hq]; exact hat _ _) ?_
    refine gO1 hq ?_
    refine takeQ_a (t := t) (T := T2) (d := d) (dp := dp1) (tl_ne g2 oMg) h36 (by rw [← hq]; exact hat _ _) ?_
   all_goals
    rw [hset]
    refine gO1 hq ?_
    refine row_a hl (fs := []) (cs := [(H.length, 0, 0)]) (side := sideC H.length i) kRf (prodQ2_a hl oMg hf hg) (prod_good d hg) [43, 45] (by decide) T2 (deepF d dp1 t) (hat _ _) (fun X G => by rw [hset, List.append_assoc]; exact hsd X _) (fun G => by rw [List.append_assoc]; exact hsd _ _) hT2 oMg sMp sMp (fun y T3 dp3 hy => ?_) (fun e T' d' dp' cs hy hcs => ?_)
    ·have hy' : sumG fc d T2 (deepF d dp1 t) = .ok (y, T3, dp3) := hy
     rw [hy'] at hk1
     have hk := hk1 _ _ _ rfl
     have h7 := (encT_ok y).1
     have h8 : (encT y).take 5 = encT y := List.take_of_length_le oMg
     have hlit := lit2 h5 h7
     rw [hset]
     simp (disch := first | omega | (simp only [go_sem]; try omega)) only [go_sem, h5, h6, h7, h8, hlit, hq]
     exact Ret.tree (els := [encT x, encT y]) (j := 4) (HOk.psQ hH) sMp rfl (pureT2 (encT_ok x) (encT_ok y)) rfl sMp hk
    ·have hy' : sumG fc d T2 (deepF d dp1 t) = .error e := hy
     rw [hy'] at hk2
     have h7 := hcs.1
     have h8 : cs.take 5 = cs := List.take_of_length_le oMg
     have hlit := lit2 h5 h7
     have hk := hk2 e T' d' dp' [.int .u8 (qK t), .str ⟨#[]⟩, .int .i64 0, .lst 5 [encT x, cs], .int .i64 0] rfl ⟨rfl, rfl⟩
     rw [hq] at hk
     rw [hset]
     simp (disch := first | omega | (simp only [go_sem]; try omega)) only [go_sem, h5, h6, h7, h8, hlit, hq]
     exact Ret.tree (els := [encT x, cs]) (j := 4) (HOk.psQ hH) sMp rfl (pureT2 (encT_ok x) hcs) rfl sMp hk
 ·have hj : compG fc d T dp = .error e := by unfold compG joinF; rw [show sumG fc d T dp = .error e from h1]
  have hk := hk2 e T' d' dp' cs hj hcs
  have h5 := hcs.1
  have h6 : cs.take 5 = cs := List.take_of_length_le oMg
  rw [hset0]
  unfold psQ at hk ⊢
  refine gO2 h5 h6 ?_
  exact Ret.drop (HOk.psQ hH) sMp (hcs.ok _) hk
end Go.Proofs.YtagoolooikpabaaGreatDoor
namespace Go.Proofs.YtagoolooikpabaaGreatDoor
open Go Go.RowKit
set_option maxRecDepth 100000
set_option maxHeartbeats 4000000
variable {H : Hp} {K : AV → Hp → Prop}
theorem appTr {i q ty : Nat} {own : Bool} {J : AV → Hp → Prop} (l : List (List AC)) (x : List AC) (hi : H[i]? = some (grO 173 5 l)) (hj : H[q]? = some (.row ty 5 [x] own)) (hb : l.length ≤ 1000000000)
  (h : J (.c (grV H.length (l ++ [x]))) (H.set i .dead ++ [grO 173 5 (l ++ [x])])) : aBuiltin Tryz.prog .append #[171, 171] [.c (grV i l), .c (.sl (some (q, 0)) 1)] H J := by
 exact app_grR (enc := fun y : List AC => y) (e := 173) (sz := 5) (bs := 64) (z := [.int .u8 0, .str .empty, .int .i64 0, .sl none 0, .int .i64 0]) l [x] kRf kRf kRf kRf (by rw [List.map_id']; exact hi) (by rw [hj]; rfl) sMp rfl (by decide) (by simp; omega) (by simp; omega) (by rw [List.map_id']; exact h)
structure FSq where
 j : Nat
 acc : List (List AC)
 st : (List Ex × List Tok × Int) ⊕ QEr
def fO (d : Int) : (List Ex × List Tok × Int) ⊕ QEr → AObj
 | .inl q => psQ q.2.1 d q.2.2 (-1)
 | .inr q => psQ q.T q.d q.dp q.e
def fI (l : List UInt8) (rd : List Tok → Int → PR Ex) (d : Int) (many N : Nat) (res : PR (List Ex)) (s : FSq) : Prop := s.j ≤ many ∧ s.acc.length ≤ s.j ∧ (∀ c ∈ s.acc, okT c) ∧ (0 < s.j → s.acc ≠ []) ∧ match s.st with
 | .inl q => argF rd d (many - s.j) q.1 q.2.1 q.2.2 = res ∧ Tl l q.2.1 ∧ q.2.1.length ≤ N ∧ q.1.length = s.j ∧ s.acc = q.1.map encT
 | .inr q => res = .error q.e ∧ 0 < s.j
theorem fO_ok {d : Int} (s : (List Ex × List Tok × Int) ⊕ QEr) (n : Nat) : (fO d s).okN n := by
 cases s with
 | inl q => exact psQ_ok n
 | inr q => exact psQ_ok n
theorem pureTs {l : List (List AC)} (h : ∀ c ∈ l, okT c) : pureL l = true := by
 unfold pureL
 rw [List.all_eq_true]
 intro c hc
 exact (h c hc).2
def outR (f : List UInt8) (p : Nat) (acc : List (List AC)) : AObj := .row 173 5 [[.int .u8 102, .str (tB f), .int .i64 0, grV p acc, .int .i64 0]] true
theorem WkL.fnT {A G : Hp} {m n k : Nat} {o1 o2 : AObj} {f : List UInt8} {acc : List (List AC)} (r : Int) (hA : HOk A) (hm : m ≤ A.length + 3) (hk : n = A.length + k) (hG0 : G[0]? = some o1) (hG1 : G[1]? = some o2) (h1 : ∀ σ, o1.ren σ = o1) (h2 : ∀ σ, o2.ren σ = o2) (h1o : ∀ n, o1.okN n) (h2o : ∀ n, o2.okN n) (hG2 : G[2]? = some (outR f n acc)) (hGk : G[k]? = some (grO 173 5 acc)) (hk3 : 3 ≤ k) (hp : ∀ c ∈ acc, okT c) :
  WkL m [(.c (.int .i64 r))] (A ++ G) [(.c (.int .i64 r))] (A ++ [o1, o2, outR f (A.length + 3) acc, grO 173 5 acc]) := by
 subst hk
 refine WkL.pickR [0, 1, 2, k] 3 hA oMg sMp ?_ ?_ ?_ ?_ ?_ ?_
 ·intro j hj
  obtain rfl | rfl | rfl : j = 0 ∨ j = 1 ∨ j = 2 := by omega
  ·rfl
  ·rfl
  ·rfl
 ·simp only [List.map_cons, List.map_nil, hG0, hG1, hG2, hGk, h1, h2, outR, row_ren, grV_ren]
  rw [grO_ren _ _ _ (pureTs hp), pickS_add]
  rfl
 ·simp; omega
 ·intro o ho
  simp only [List.mem_cons, List.not_mem_nil, or_false] at ho
  rcases ho with rfl | rfl | rfl | rfl
  ·exact h1o _
  ·exact h2o _
  ·intro e he
   rw [List.mem_singleton] at he
   subst he
   refine ⟨rfl, fun x hx => ?_⟩
   simp only [List.mem_cons, List.not_mem_nil, or_false] at hx
   rcases hx with rfl | rfl | rfl | rfl | rfl
   ·trivial
   ·trivial
   ·trivial
   ·exact grV_ok sMp _
   ·trivial
  ·have key : ∀ (acc : List (List AC)), (∀ c ∈ acc, okT c) → ∀ n, (grO 173 5 acc).okN n := by
    intro acc hp n
    cases acc with
    | nil => trivial
    | cons x xs => exact fun e he => ⟨(hp e he).1, fun y hy => AC.ok_of_pure (List.all_eq_true.1 (hp e he).2 y hy) n⟩
   exact key acc hp _
 ·rfl
 ·intro z hz
  rw [List.mem_singleton] at hz
  subst hz
  trivial
theorem encT_fn (f : List UInt8) {L : List Ex} (h : L.length = 1 ∨ L.length = 2 ∨ L.length = 3) : encT (mkFn f L) = [.int .u8 102, .str (tB f), .int .i64 0, .lst 5 (L.map encT), .int .i64 0] := by
 match L, h with
 | [a], _ => simp [mkFn, encT]
 | [a, b], _ => simp [mkFn, encT]
 | [a, b, c], _ => simp [mkFn, encT]
 | [], h => simp at h
 | _ :: _ :: _ :: _ :: _, h => simp at h
theorem psQ_row (T : List Tok) (d dp bad : Int) : psQ T d dp bad = .row 243 4 [[.lst 3 (T.map encQ), .int .i64 d, .int .i64 bad, .int .i64 dp]] true := rfl
theorem fO_l (L : List Ex) (T : List Tok) (d dp : Int) : fO d (.inl (L, T, dp)) = .row 243 4 [[.lst 3 (T.map encQ), .int .i64 d, .int .i64 (-1), .int .i64 dp]] true := rfl
theorem fO_r (e : Nat) (cs : List AC) (T : List Tok) (d d' dp' : Int) : fO d (.inr ⟨e, cs, T, d', dp'⟩) = .row 243 4 [[.lst 3 (T.map encQ), .int .i64 d', .int .i64 e, .int .i64 dp']] true := rfl
theorem nameF_a {l : List UInt8} (hl : l.length ≤ 1000) {i n : Nat} {d : Int} (hd : 0 ≤ d ∧ d ≤ 100000) {rd : List Tok → Int → PR Ex} (hrd : RdQ l 170 [.c (.ptr (some (i, 0, 0)))] i noSide n (d + 1) rd) (hg : RdG l rd) {t : Tok} {T : List Tok} {dp : Int} (hT : Tl l (t :: T)) (hk2 : t.k = 2) (hf : 0 < fnN t.x) (hn : T.length ≤ n + 1) (hi : H[i]? = some (psQ (t :: T) d dp (-1)))
  (hk1 : ∀ L T' dp', encF rd d (fnN t.x) T (deepF d dp t) = .ok (L, T', dp') → K (.agg (encT (mkFn t.x L))) (H.set i (psQ T' d dp' (-1))))
  (hk2 : ∀ (e : Nat) (T' : List Tok) (d' dp' : Int) (cs : List AC), encF rd d (fnN t.x) T (deepF d dp t) = .error e → okT cs → K (.agg cs) (H.set i (psQ T' d' dp' e))) : ACalls Tryz.prog 266 [.c (.ptr (some (i, 0, 0)))] H K := by
 have hil := getElem?_lt hi
 have hset0 : ∀ (X : AObj) (G : Hp), (H ++ G).set i X = H.set i X ++ G := fun X G => by rw [List.set_append_left _ _ hil]
 have hat0 : ∀ G : Hp, (H ++ G)[i]? = some (psQ (t :: T) d dp (-1)) := fun G => by rw [List.getElem?_append_left hil]; exact hi
 have hset : ∀ (X Y : AObj) (G : Hp), (H.set i X ++ G).set i Y = H.set i Y ++ G := fun X Y G => by rw [List.set_append_left _ _ (by simpa using hil), List.set_set]
 have hat : ∀ (X : AObj) (G : Hp), (H.set i X ++ G)[i]? = some X := fun X G => by rw [List.getElem?_append_left (by simpa using hil), List.getElem?_set_self hil]
 have hqx : qX t = t.x := by unfold qX; rw [if_neg oMg]
 have hqk := qK_k hT.ok
 have hfn := fnN_3 t.x
 have hw1 : IntKind.i64.wrap (d + 1) = d + 1 := by rw [IntKind.wrap_i64]; omega
 have hw2 : IntKind.i64.wrap (d + 1 - 1) = d := by rw [IntKind.wrap_i64]; omega
 have hTT := (hT.next oMg).1
 obtain ⟨u, T2, rfl, hu, _⟩ := hTT.head
 rw [List.length_cons] at hn
 unfold encF at hk1 hk2
 dsimp only at hk1 hk2
 obtain ⟨dp1, hdp1⟩ : ∃ dp1, dp1 = deepF d dp t := ⟨_, rfl⟩
 rw [← hdp1] at hk1 hk2
 have hi' : H[i]? = some (.row 243 4 [[.lst 3 ((t :: u :: T2).map encQ), .int .i64 d, .int .i64 (-1), .int .i64 dp]] true) := hi
 have hf' : (0 : Int) < (fnN t.x : Int) := by omega
 refine acalls Tryz.func266 rfl kRf gT (fun hH => ?_)
 refine gO2 hi' hqx ?_
 refine functionQ_a t.x ?_
 refine gO1 hf' ?_
 refine takeQ_a (t := t) (T := u :: T2) (d := d) (dp := dp) sMp (fun h => by have := hqk.1.1 h; omega) (hat0 _) ?_
 rw [hset0, ← hdp1]
 refine gO ?_
 by_cases hsg : (sgT u [40]).isSome = true
 ·rw [if_pos hsg] at hk1 hk2
  have hku := sgT_is hsg
  have hT2 := (hTT.next oMg).1
  refine needQ_ok (t := u) (T := T2) (d := d) (dp := dp1) 40 40 rfl (by decide) hTT hsg (hat _ _) ?_
  rw [hset]
  obtain ⟨dp2, hdp2⟩ : ∃ dp2, dp2 = deepF d dp1 u := ⟨_, rfl⟩
  rw [← hdp2] at hk1 hk2 ⊢
  obtain ⟨res, hres⟩ : ∃ res, res = argF rd (d + 1) (fnN t.x) [] T2 dp2 := ⟨_, rfl⟩
  rw [← hres] at hk1 hk2
  have hps : ∀ q : Int, psQ T2 q dp2 (-1) = .row 243 4 [[.lst 3 (T2.map encQ), .int .i64 q, .int .i64 (-1), .int .i64 dp2]] true := fun q => rfl
  rw [hps d]
  refine gO2 hqx hw1 ?_
  refine AWp.loop (H.length + 3) [0, 2, 5, 37] [38] (fun (s : FSq) => fI l rd (d + 1) (fnN t.x) T2.length res s) (fun (s : FSq) => [(38, (.c (.int .i64 (s.j))))]) (fun (s : FSq) => H.set i (fO (d + 1) s.st) ++ [.row 173 5 [zT] true, .row 293 3 [[.int .u8 (qK t), .str (tB t.x), .int .i64 t.o]] true, outR t.x (H.length + 3) s.acc, grO 173 5 s.acc]) (fun (s : FSq) => fnN t.x - s.j) kRf (fun _ => rfl) kRf sOo sOm kl ?_ (fun s q _ _ => ?_)
  ·refine Next.mk ⟨0, [], .inl ([], T2, dp2)⟩ ⟨Nat.zero_le _, Nat.le_refl _, by simp, by simp, hres.symm, hT2, Nat.le_refl _, rfl, rfl⟩ ?_
   exact WkL.padP [_, _, _] sMp
  clear hps hres
  obtain ⟨j, acc, st⟩ := s
  obtain ⟨q0, q1, q4, q5, q2⟩ := q
  dsimp only at q0 q1 q2 q4 q5 ⊢
  have hokA : ∀ s : (List Ex × List Tok × Int) ⊕ QEr, HOk (H.set i (fO (d + 1) s)) := fun s => HOk.set hH (fO_ok s _)
  have hend : ∀ (w : List AC) (hw : okT w) (st' : (List Ex × List Tok × Int) ⊕ QEr), WkL (H.length + 3) [(.c (.int .i64 ((j : Int) + 1)))] (H.set i (fO (d + 1) st') ++ [.row 173 5 [zT] true, .row 293 3 [[.int .u8 (qK t), .str (tB t.x), .int .i64 t.o]] true, .row 173 5 [[.int .u8 102, .str (tB t.x), .int .i64 0, .sl (some (H.length + 5, 0)) (acc.length + 1), .int .i64 0]] true, .dead, .row 173 5 [w] true, .row 173 5 (acc ++ [w]) true]) [(.c (.int .i64 (((j + 1 : Nat) : Int))))] (H.set i (fO (d + 1) st') ++ [.row 173 5 [zT] true, .row 293 3 [[.int .u8 (qK t), .str (tB t.x), .int .i64 t.o]] true, .row 173 5 [[.int .u8 102, .str (tB t.x), .int .i64 0, .sl (some (H.length + 3, 0)) (acc.length + 1), .int .i64 0]] true, .row 173 5 (acc ++ [w]) true]) := fun w hw st' => by
   have hgv : ∀ p : Nat, (grV p (acc ++ [w]) : AC) = .sl (some (p, 0)) (acc.length + 1) := fun p => by rw [grV_pos _ sMp]; simp
   have := WkL.fnT (m := H.length + 3) (n := H.length + 5) (k := 5) (f := t.x) (acc := acc ++ [w]) (o1 := .row 173 5 [zT] true) (o2 := .row 293 3 [[.int .u8 (qK t), .str (tB t.x), .int .i64 t.o]] true) (G := [.row 173 5 [zT] true, .row 293 3 [[.int .u8 (qK t), .str (tB t.x), .int .i64 t.o]] true, .row 173 5 [[.int .u8 102, .str (tB t.x), .int .i64 0, .sl (some (H.length + 5, 0)) (acc.length + 1), .int .i64 0]] true, .dead, .row 173 5 [w] true, grO 173 5 (acc ++ [w])]) ((j : Int) + 1) (hokA st') sMp sMp rfl rfl (fun _ => rfl) (fun _ => rfl) (fun n => zT_ok.row n _ _) (fun n => by
    intro e he
    rw [List.mem_singleton] at he
    subst he
    refine ⟨rfl, fun x hx => ?_⟩
    simp only [List.mem_cons, List.not_mem_nil, or_false] at hx
    rcases hx with rfl | rfl | rfl <;> trivial) (by unfold outR; rw [hgv]; rfl) rfl oMg (fun c hc => by
    rcases List.mem_append.1 hc with h | h
    ·exact q4 c h
    ·rw [List.mem_singleton.1 h]; exact hw)
   have hgr : grO 173 5 (acc ++ [w]) = .row 173 5 (acc ++ [w]) true := grO_pos _ _ sMp
   unfold outR at this
   rw [List.length_set, hgr, hgv] at this
   rw [show (((j + 1 : Nat) : Int)) = (j : Int) + 1 by omega]
   exact this
  have hsplit : ∀ w, okT w → ∀ c ∈ acc ++ [w], okT c := fun w hw c hc => by
   rcases List.mem_append.1 hc with h | h
   ·exact q4 c h
   ·rw [List.mem_singleton.1 h]; exact hw
  by_cases hj : j < fnN t.x
  ·have hj' : (j : Int) < (fnN t.x : Int) := by omega
   rcases st with ⟨L, T, dp⟩ | ⟨e, cs, T', d', dp'⟩
   ·obtain ⟨r1, r2, r3, r4, r5⟩ := q2
    dsimp only at r1 r2 r3 r4 r5
    obtain ⟨v, T3, rfl, hv, _⟩ := r2.head
    rw [show fnN t.x - j = (fnN t.x - j - 1) + 1 by omega] at r1
    unfold argF at r1
    rw [fO_l]
    unfold outR
    have hcmp : ∀ (x : Ex) (T4 : List Tok) (dp4 : Int), (argF rd (d + 1) (fnN t.x - j - 1) (L ++ [x]) T4 dp4 = res ∧ Tl l T4 ∧ T4.length ≤ T2.length) → fI l rd (d + 1) (fnN t.x) T2.length res ⟨j + 1, acc ++ [encT x], .inl (L ++ [x], T4, dp4)⟩ ∧ fnN t.x - (j + 1) < fnN t.x - j := fun x T4 dp4 h =>
     ⟨⟨by dsimp only; omega, by simp; omega, hsplit _ (encT_ok x), fun _ => by simp, by dsimp only; rw [show fnN t.x - (j + 1) = fnN t.x - j - 1 by omega]; exact h.1, h.2.1, h.2.2, by simp [r4], by rw [r5]; simp⟩, by omega⟩
    have hbad : ∀ (w : List AC) (e : Nat) (cs : List AC) (T' : List Tok) (d' dp' : Int), okT w → res = .error e → fI l rd (d + 1) (fnN t.x) T2.length res ⟨j + 1, acc ++ [w], .inr ⟨e, cs, T', d', dp'⟩⟩ ∧ fnN t.x - (j + 1) < fnN t.x - j := fun w e cs T' d' dp' hw h =>
     ⟨⟨by dsimp only; omega, by simp; omega, hsplit _ hw, fun _ => by simp, h, by dsimp only; omega⟩, by omega⟩
    by_cases hj0 : j = 0
    ·have hL : L = [] := List.length_eq_zero_iff.1 oMg
     rw [if_pos hL] at r1
     dsimp only at r1
     have hj0' : ¬ (0 : Int) < (j : Int) := by omega
     refine gO2 hj' hj0' ?_
     refine w_tree (.one 0 (.one 2 (.two 1 (.one 3 (.one 4 (.one 5 (.one 6 (.one 7 .done))))) 3 (.one 1 (.one 4 (.one 5 (.one 6 (.one 7 .done)))))))) kRf dKn ?_
     refine gO ?_
     repeat' apply And.intro
     all_goals
      refine hrd _ _ (v :: T3) (dp) (hat _ _) trivial r2 oMg (fun x T4 dp4 hx => ?_) (fun e T' d' dp' cs hx hcs => ?_)
      ·rw [hx] at r1
       dsimp only at r1
       obtain ⟨s1, s2, s3⟩ := hg _ _ _ _ _ r2 hx
       have h5 := (encT_ok x).1
       have hlit := lit1 h5
       rw [hset]
       refine gO2 h5 hlit ?_
       refine appTr acc (encT x) aTT aTT oMg ?_
       refine gO ?_
       refine Next.mk ⟨j + 1, acc ++ [encT x], .inl (L ++ [x], T4, dp4)⟩ (hcmp x T4 dp4 ⟨r1, s2, by omega⟩) ?_
       refine gO ?_
       exact hend (encT x) (encT_ok x) (.inl (L ++ [x], T4, dp4))
      ·rw [hx] at r1
       dsimp only at r1
       have h5 := hcs.1
       have hlit := lit1 h5
       rw [hset]
       refine gO2 h5 hlit ?_
       refine appTr acc cs aTT aTT oMg ?_
       refine gO ?_
       refine Next.mk ⟨j + 1, acc ++ [cs], .inr ⟨e, [], T', d', dp'⟩⟩ (hbad cs e [] T' d' dp' hcs r1.symm) ?_
       refine gO ?_
       exact hend cs hcs (.inr ⟨e, [], T', d', dp'⟩)
    ·have hL : ¬ L = [] := fun h => by rw [h] at r4; exact hj0 r4.symm
     rw [if_neg hL] at r1
     dsimp only at r1
     have hj0' : (0 : Int) < (j : Int) := by omega
     have hacc : acc ≠ [] := q5 oMg
     have hgv0 : (grV (H.length + 3) acc : AC) = .sl (some (H.length + 3, 0)) acc.length := grV_pos _ hacc
     have hgo : grO 173 5 acc = .row 173 5 acc true := grO_pos _ _ hacc
     by_cases hc : (sgT v [44]).isSome = true
     ·have hk3v := sgT_is hc
      have hT3 := (r2.next oMg).1
      obtain ⟨w, T5, rfl, hw, _⟩ := hT3.head
      rw [if_pos hc] at r1
      dsimp only at r1
      rw [List.length_cons] at r3
      refine gO2 hj' hj0' ?_
      refine needQ_ok (t := v) (T := w :: T5) (d := d + 1) (dp := dp) 44 44 rfl (by decide) r2 hc (hat _ _) ?_
      rw [hset]
      refine gO ?_
      refine w_tree (.one 0 (.one 2 (.two 1 (.one 3 (.one 4 (.one 5 (.one 6 (.one 7 .done))))) 3 (.one 1 (.one 4 (.one 5 (.one 6 (.one 7 .done)))))))) kRf dKn ?_
      refine gO ?_
      repeat' apply And.intro
      all_goals
       refine hrd _ _ (w :: T5) (deepF (d + 1) dp v) (hat _ _) trivial hT3 oMg (fun x T4 dp4 hx => ?_) (fun e T' d' dp' cs hx hcs => ?_)
       ·rw [hx] at r1
        dsimp only at r1
        obtain ⟨s1, s2, s3⟩ := hg _ _ _ _ _ hT3 hx
        have h5 := (encT_ok x).1
        have hlit := lit1 h5
        rw [hset]
        refine gO2 h5 hlit ?_
        refine appTr acc (encT x) aTT aTT oMg ?_
        refine gO ?_
        refine Next.mk ⟨j + 1, acc ++ [encT x], .inl (L ++ [x], T4, dp4)⟩ (hcmp x T4 dp4 ⟨r1, s2, by omega⟩) ?_
        refine gO ?_
        exact hend (encT x) (encT_ok x) (.inl (L ++ [x], T4, dp4))
       ·rw [hx] at r1
        dsimp only at r1
        have h5 := hcs.1
        have hlit := lit1 h5
        rw [hset]
        refine gO2 h5 hlit ?_
        refine appTr acc cs aTT aTT oMg ?_
        refine gO ?_
        refine Next.mk ⟨j + 1, acc ++ [cs], .inr ⟨e, [], T', d', dp'⟩⟩ (hbad cs e [] T' d' dp' hcs r1.symm) ?_
        refine gO ?_
        exact hend cs hcs (.inr ⟨e, [], T', d', dp'⟩)
     ·have hc' : (sgT v [44]).isSome = false := by simpa using hc
      rw [if_neg hc] at r1
      dsimp only at r1
      rw [← r1] at hk2
      have hk := fun d'' => hk2 v.o (v :: T3) d'' dp [.int .u8 102, .str (tB t.x), .int .i64 0, .lst 5 acc, .int .i64 0] rfl ⟨rfl, rfl⟩
      refine gO2 hj' hj0' ?_
      refine needQ_no (t := v) (T := T3) (d := d + 1) (dp := dp) 44 44 rfl (by decide) hv hc' (hat _ _) ?_
      rw [hset, psQ_row]
      refine gO2 hgv0 hw2 ?_
      refine closeQ_bad (T := v :: T3) (d := d) (dp := dp) (e := v.o) (hat _ _) (fun d'' => ?_)
      rw [hset]
      refine gO1 hgv0 ?_
      exact Ret.tree (els := acc) (j := 3) (HOk.psQ hH) sMp (by rw [hgo]; rfl) (pureTs q4) rfl sMp (hk d'')
   ·have hq2 : res = .error e := q2.1
    have hjp : 0 < j := q2.2
    rw [fO_r]
    unfold outR
    by_cases hj0 : j = 0
    ·omega
    ·have hacc : acc ≠ [] := q5 oMg
     have hgv0 : (grV (H.length + 3) acc : AC) = .sl (some (H.length + 3, 0)) acc.length := grV_pos _ hacc
     have hgo : grO 173 5 acc = .row 173 5 acc true := grO_pos _ _ hacc
     have hj0' : (0 : Int) < (j : Int) := by omega
     rw [hq2] at hk2
     have hk := fun d'' => hk2 e T' d'' dp' [.int .u8 102, .str (tB t.x), .int .i64 0, .lst 5 acc, .int .i64 0] rfl ⟨rfl, rfl⟩
     refine gO2 hj' hj0' ?_
     refine needQ_bad (T := T') (d := d') (dp := dp') (e := e) 44 (hat _ _) ?_
     refine gO1 hgv0 ?_
     refine closeQ_bad (T := T') (d := IntKind.i64.wrap (d' - 1)) (dp := dp') (e := e) (hat _ _) (fun d'' => ?_)
     rw [hset]
     refine gO1 hgv0 ?_
     exact Ret.tree (els := acc) (j := 3) (HOk.psQ hH) sMp (by rw [hgo]; rfl) (pureTs q4) rfl sMp (hk d'')
  ·have hj' : ¬ (j : Int) < (fnN t.x : Int) := by omega
   have hacc : acc ≠ [] := q5 oMg
   have hgv0 : (grV (H.length + 3) acc : AC) = .sl (some (H.length + 3, 0)) acc.length := grV_pos _ hacc
   have hgo : grO 173 5 acc = .row 173 5 acc true := grO_pos _ _ hacc
   rcases st with ⟨L, T, dp⟩ | ⟨e, cs, T', d', dp'⟩
   ·obtain ⟨r1, r2, r3, r4, r5⟩ := q2
    dsimp only at r1 r2 r3 r4 r5
    obtain ⟨v, T3, rfl, hv, _⟩ := r2.head
    rw [show fnN t.x - j = 0 by omega] at r1
    unfold argF at r1
    rw [← r1] at hk1 hk2
    dsimp only at hk1 hk2
    rw [fO_l]
    unfold outR
    refine gO3 hj' hw2 hgv0 ?_
    by_cases hc : (sgT v [41]).isSome = true
    ·rw [if_pos hc] at hk1
     have hk := hk1 _ _ _ rfl
     rw [encT_fn t.x oMg, ← r5] at hk
     refine closeQ_ok (t := v) (T := T3) (d := d) (dp := dp) hd r2 hc (hat _ _) ?_
     rw [hset]
     refine gO1 hgv0 ?_
     exact Ret.tree (els := acc) (j := 3) (HOk.psQ hH) sMp (by rw [hgo]; rfl) (pureTs q4) rfl sMp hk
    ·rw [if_neg hc] at hk2
     have hc' : (sgT v [41]).isSome = false := by simpa using hc
     have hk := hk2 v.o (v :: T3) d dp [.int .u8 102, .str (tB t.x), .int .i64 0, .lst 5 acc, .int .i64 0] rfl ⟨rfl, rfl⟩
     refine closeQ_no (t := v) (T := T3) (d := d) (dp := dp) hd hv hc' (hat _ _) ?_
     rw [hset]
     refine gO1 hgv0 ?_
     exact Ret.tree (els := acc) (j := 3) (HOk.psQ hH) sMp (by rw [hgo]; rfl) (pureTs q4) rfl sMp hk
   ·have hq2 : res = .error e := q2.1
    rw [hq2] at hk2
    have hk := fun d'' => hk2 e T' d'' dp' [.int .u8 102, .str (tB t.x), .int .i64 0, .lst 5 acc, .int .i64 0] rfl ⟨rfl, rfl⟩
    rw [fO_r]
    unfold outR
    refine gO2 hj' hgv0 ?_
    refine closeQ_bad (T := T') (d := IntKind.i64.wrap (d' - 1)) (dp := dp') (e := e) (hat _ _) (fun d'' => ?_)
    rw [hset]
    refine gO1 hgv0 ?_
    exact Ret.tree (els := acc) (j := 3) (HOk.psQ hH) sMp (by rw [hgo]; rfl) (pureTs q4) rfl sMp (hk d'')
 ·rw [if_neg hsg] at hk2
  have hsg' : (sgT u [40]).isSome = false := by simpa using hsg
  have hk := hk2 u.o (u :: T2) d dp1 trQ0 rfl ⟨rfl, rfl⟩
  refine needQ_no (t := u) (T := T2) (d := d) (dp := dp1) 40 40 rfl (by decide) hu hsg' (hat _ _) ?_
  rw [hset]
  refine gO ?_
  exact Ret.drop (HOk.psQ hH) sMp oKs hk
end Go.Proofs.YtagoolooikpabaaGreatDoor
namespace Go.Proofs.YtagoolooikpabaaGreatDoor
open Go Go.RowKit
set_option maxRecDepth 100000
set_option maxHeartbeats 4000000
variable {H : Hp} {K : AV → Hp → Prop}
theorem nameT_a {l : List UInt8} (hl : l.length ≤ 1000) {i : Nat} {d : Int} {t : Tok} {T : List Tok} {dp : Int} (hT : Tl l (t :: T)) (htk : t.k = 2) (hf : ¬ 0 < fnN t.x) (hi : H[i]? = some (psQ (t :: T) d dp (-1)))
  (hk0 : 40 < t.x.length → K (.agg trQ0) (H.set i (psQ (t :: T) d dp t.o)))
  (hk1 : t.x.length ≤ 40 → ∀ y T' dp', shfF t.x d T (deepF d dp t) = .ok (y, T', dp') → K (.agg (encT y)) (H.set i (psQ T' d dp' (-1))))
  (hk2 : t.x.length ≤ 40 → ∀ (e : Nat) (T' : List Tok) (d' dp' : Int) (cs : List AC), shfF t.x d T (deepF d dp t) = .error e → okT cs → K (.agg cs) (H.set i (psQ T' d' dp' e))) : ACalls Tryz.prog 266 [.c (.ptr (some (i, 0, 0)))] H K := by
 have hil := getElem?_lt hi
 have hset0 : ∀ (X : AObj) (G : Hp), (H ++ G).set i X = H.set i X ++ G := fun X G => by rw [List.set_append_left _ _ hil]
 have hat0 : ∀ G : Hp, (H ++ G)[i]? = some (psQ (t :: T) d dp (-1)) := fun G => by rw [List.getElem?_append_left hil]; exact hi
 have hset : ∀ (X Y : AObj) (G : Hp), (H.set i X ++ G).set i Y = H.set i Y ++ G := fun X Y G => by rw [List.set_append_left _ _ (by simpa using hil), List.set_set]
 have hat : ∀ (X : AObj) (G : Hp), (H.set i X ++ G)[i]? = some X := fun X G => by rw [List.getElem?_append_left (by simpa using hil), List.getElem?_set_self hil]
 have hqx : qX t = t.x := by unfold qX; rw [if_neg oMg]
 have hqk := qK_k hT.ok
 have htl := hT.ok.1
 have hTT := (hT.next oMg).1
 obtain ⟨u, T2, rfl, hu, _⟩ := hTT.head
 have hi' : H[i]? = some (.row 243 4 [[.lst 3 ((t :: u :: T2).map encQ), .int .i64 d, .int .i64 (-1), .int .i64 dp]] true) := hi
 have hf' : ¬ (0 : Int) < (fnN t.x : Int) := by omega
 refine acalls Tryz.func266 rfl kRf gT (fun hH => ?_)
 refine gO2 hi' hqx ?_
 refine functionQ_a t.x ?_
 refine gO1 hf' ?_
 refine keyR_a (tB t.x) (by rw [tB_size]; omega) ?_
 rw [key_tok hT.ok htk]
 by_cases h40 : t.x.length ≤ 40
 ·rw [decide_eq_true h40]
  have hk1 := hk1 h40
  have hk2 := hk2 h40
  unfold shfF at hk1 hk2
  dsimp only at hk1 hk2
  obtain ⟨dp1, hdp1⟩ : ∃ dp1, dp1 = deepF d dp t := ⟨_, rfl⟩
  rw [← hdp1] at hk1 hk2
  refine gO ?_
  refine takeQ_a (t := t) (T := u :: T2) (d := d) (dp := dp) sMp (fun h => by have := hqk.1.1 h; omega) (hat0 _) ?_
  rw [hset0, ← hdp1]
  refine gO1 hqx ?_
  refine nextQ_a (t := u) (T := T2) (d := d) (dp := dp1) (bad := -1) (hat _ _) ?_
  have h64 := qK_sg hu 64 (by decide) 64 rfl
  by_cases hsg : (sgT u [64]).isSome = true
  ·rw [if_pos hsg] at hk1 hk2
   have hq64 := h64.2 hsg
   have hku := sgT_is hsg
   have hT2 := (hTT.next oMg).1
   obtain ⟨v, T3, rfl, hv, _⟩ := hT2.head
   dsimp only at hk1 hk2
   refine gO1 hq64 ?_
   refine takeQ_a (t := u) (T := v :: T3) (d := d) (dp := dp1) sMp (fun h => by rw [hq64] at h; cases h) (hat _ _) ?_
   obtain ⟨dp2, hdp2⟩ : ∃ dp2, dp2 = deepF d dp1 u := ⟨_, rfl⟩
   rw [← hdp2] at hk1 hk2 ⊢
   rw [hset, psQ_row]
   refine gO ?_
   refine smallQ_a hl hv 86400000 (fun n hn => ?_)
   refine gO ?_
   refine nextQ_a (t := v) (T := T3) (d := d) (dp := dp2) (bad := -1) (hat _ _) ?_
   have h110 := (qK_k hv).2.1
   by_cases h1 : v.k = 1
   ·have hq110 := h110.2 h1
    have hqv : qX v = v.x := by unfold qX; rw [if_neg oMg]
    rw [if_pos h1] at hk1 hk2
    cases hq : numF v.x 9 with
    | none =>
     have hqs : numF (qX v) 9 = none := by rw [hqv]; exact hq
     rw [hq] at hk2
     have hk := hk2 _ (v :: T3) d dp2 trQ0 rfl ⟨rfl, rfl⟩
     refine gO2 hq110 hqs ?_
     refine failQ_a (t := v) (T := T3) (d := d) (dp := dp2) (by rw [← hq110]; exact hat _ _) ?_
     rw [hset]
     refine gO ?_
     exact Ret.drop (HOk.psQ hH) sMp oKs hk
    | some q =>
     obtain rfl := hn q hq oMg
     have hqs : numF (qX v) 9 = some n := by rw [hqv]; exact hq
     rw [hq] at hk1 hk2
     dsimp only at hk1 hk2
     by_cases h4 : n ≤ 86400000
     ·rw [if_pos h4] at hk1
      have hk := hk1 _ _ _ rfl
      have hT3 := (hT2.next oMg).1
      obtain ⟨w, T4, rfl, hw, _⟩ := hT3.head
      refine gO3 hq110 h4 hqs ?_
      refine takeQ_a (t := v) (T := w :: T4) (d := d) (dp := dp2) sMp (fun h => by rw [hq110] at h; cases h) (by rw [← hq110]; exact hat _ _) ?_
      rw [hset]
      refine gO ?_
      exact Ret.drop (HOk.psQ hH) sMp oKs hk
     ·rw [if_neg h4] at hk2
      have hk := hk2 _ (v :: T3) d dp2 trQ0 rfl ⟨rfl, rfl⟩
      refine gO3 hq110 h4 hqs ?_
      refine failQ_a (t := v) (T := T3) (d := d) (dp := dp2) (by rw [← hq110]; exact hat _ _) ?_
      rw [hset]
      refine gO ?_
      exact Ret.drop (HOk.psQ hH) sMp oKs hk
   ·have hq110 : ¬ qK v = 110 := fun h => h1 (h110.1 h)
    rw [if_neg h1] at hk2
    have hk := hk2 _ (v :: T3) d dp2 trQ0 rfl ⟨rfl, rfl⟩
    refine gO1 hq110 ?_
    refine failQ_a (t := v) (T := T3) (d := d) (dp := dp2) (hat _ _) ?_
    rw [hset]
    refine gO ?_
    exact Ret.drop (HOk.psQ hH) sMp oKs hk
  ·rw [if_neg hsg] at hk1
   have hq64 : ¬ qK u = 64 := fun h => hsg (h64.1 h)
   have hk := hk1 _ _ _ rfl
   refine gO1 hq64 ?_
   exact Ret.drop (HOk.psQ hH) sMp oKs hk
 ·rw [decide_eq_false h40]
  have hk := hk0 oMg
  refine gO ?_
  refine failQ_a (t := t) (T := u :: T2) (d := d) (dp := dp) (hat0 _) ?_
  rw [hset0]
  refine gO ?_
  exact Ret.drop (HOk.psQ hH) sMp oKs hk
theorem enc1_err {cmp : List Tok → Int → PR Ex} {d dp : Int} {t : Tok} {T1 : List Tok} {e : Nat} (h : (sgT t [40]).isSome = true) (hc : cmp T1 (deepF d dp t) = .error e) : encF cmp d 1 (t :: T1) dp = .error e := by
 unfold encF
 dsimp only
 rw [if_pos h]
 unfold argF
 rw [if_pos rfl]
 dsimp only
 rw [hc]
theorem enc1_ok {cmp : List Tok → Int → PR Ex} {d dp dp' : Int} {t u : Tok} {T1 T3 : List Tok} {x : Ex} (h : (sgT t [40]).isSome = true) (hc : cmp T1 (deepF d dp t) = .ok (x, u :: T3, dp')) : encF cmp d 1 (t :: T1) dp = if (sgT u [41]).isSome = true then .ok ([x], T3, deepF (d + 1) dp' u) else .error u.o := by
 unfold encF
 dsimp only
 rw [if_pos h]
 unfold argF
 rw [if_pos rfl]
 dsimp only
 rw [hc]
 rfl
theorem factorQ_a {l : List UInt8} (hl : l.length ≤ 1000) (i : Nat) : ∀ (n : Nat) (d : Int), 0 ≤ d → d + n ≤ 5000 → RdQ l 223 [.c (.ptr (some (i, 0, 0)))] i noSide n d (factF n d)
 | 0, d, _, _ => by
  intro H K T dp hi hs hT hn hk1 hk2
  obtain ⟨t, T1, rfl, _⟩ := hT.head
  rw [List.length_cons] at hn
  omega
 | n + 1, d, hd0, hd1 => by
  intro H K T dp hi hs hT hn hk1 hk2
  have ih := factorQ_a hl i n
  have hil := getElem?_lt hi
  obtain ⟨t, T1, rfl, ht, _⟩ := hT.head
  rw [List.length_cons] at hn
  have hqk := qK_k ht
  have hset0 : ∀ (X : AObj) (G : Hp), (H ++ G).set i X = H.set i X ++ G := fun X G => by rw [List.set_append_left _ _ hil]
  have hat0 : ∀ G : Hp, (H ++ G)[i]? = some (psQ (t :: T1) d dp (-1)) := fun G => by rw [List.getElem?_append_left hil]; exact hi
  have hset : ∀ (X Y : AObj) (G : Hp), (H.set i X ++ G).set i Y = H.set i Y ++ G := fun X Y G => by rw [List.set_append_left _ _ (by simpa using hil), List.set_set]
  have hat : ∀ (X : AObj) (G : Hp), (H.set i X ++ G)[i]? = some X := fun X G => by rw [List.getElem?_append_left (by simpa using hil), List.getElem?_set_self hil]
  have h45 := qK_sg ht 45 (by decide) 45 rfl
  have h40 := qK_sg ht 40 (by decide) 40 rfl
  have hw1 : IntKind.i64.wrap (d + 1) = d + 1 := by rw [IntKind.wrap_i64]; omega
  have hw2 : IntKind.i64.wrap (d + 1 - 1) = d := by rw [IntKind.wrap_i64]; omega
  unfold factF at hk1 hk2
  have hi' : H[i]? = some (.row 243 4 [[.lst 3 ((t :: T1).map encQ), .int .i64 d, .int .i64 (-1), .int .i64 dp]] true) := hi
  by_cases h1 : (sgT t [45]).isSome = true
  ·rw [if_pos h1] at hk1 hk2
   have hq := h45.2 h1
   have hk3 := sgT_is h1
   have hT1 := (hT.next oMg).1
   obtain ⟨dp1, hdp1⟩ : ∃ dp1, dp1 = deepF d dp t := ⟨_, rfl⟩
   rw [← hdp1] at hk1 hk2
   refine acalls Tryz.func223 rfl kRf gT (fun hH => ?_)
   refine gO2 hi' hq ?_
   refine takeQ_a (t := t) (T := T1) (d := d) (dp := dp) (tl_ne hT oMg) (fun h => by rw [hq] at h; cases h) (hat0 _) ?_
   rw [hset0, ← hdp1, psQ_row]
   refine gO1 hw1 ?_
   refine ih (d + 1) oMg oMg _ _ T1 dp1 (hat _ _) trivial hT1 oMg (fun x T' dp' h => ?_) (fun e T' d' dp' cs h hcs => ?_)
   ·rw [h] at hk1
    have hk := hk1 _ _ _ rfl
    have h5 := (encT_ok x).1
    have h6 : (encT x).take 5 = encT x := List.take_of_length_le oMg
    have hlit := lit1 h5
    rw [hset, psQ_row]
    refine gO4 hw2 h5 h6 hlit ?_
    exact Ret.tree (els := [encT x]) (j := 3) (HOk.psQ hH) sMp rfl (pureT1 (encT_ok x)) rfl sMp hk
   ·rw [h] at hk2
    have h5 := hcs.1
    have h6 : cs.take 5 = cs := List.take_of_length_le oMg
    have hlit := lit1 h5
    have hk := hk2 e T' (IntKind.i64.wrap (d' - 1)) dp' [.int .u8 109, .str ⟨#[]⟩, .int .i64 0, .lst 5 [cs], .int .i64 0] rfl ⟨rfl, rfl⟩
    rw [hset, psQ_row]
    refine gO3 h5 h6 hlit ?_
    exact Ret.tree (els := [cs]) (j := 3) (HOk.psQ hH) sMp rfl (pureT1 hcs) rfl sMp hk
  ·rw [if_neg h1] at hk1 hk2
   have hq45 : ¬ qK t = 45 := fun h => h1 (h45.1 h)
   by_cases h2 : t.k = 1
   ·rw [if_pos h2] at hk1 hk2
    have hq := hqk.2.1.2 h2
    have hqv : qX t = t.x := by unfold qX; rw [if_neg oMg]
    have hT1 := (hT.next oMg).1
    have hxd : ∀ c ∈ t.x, isDg c = true := by
     rcases ht.2.2 with h | h | h | h | h
     ·omega
     ·exact h.2.2
     ·omega
     ·omega
     ·omega
    refine acalls Tryz.func223 rfl kRf gT (fun hH => ?_)
    refine gO2 hi' hq ?_
    rw [show [AC.int .u8 110, AC.str (tB (qX t)), AC.int .i64 (t.o : Int)] = encQ t by unfold encQ; rw [hq]]
    refine smallQ_a hl ht 999999999 (fun v hv => ?_)
    cases hn : numF t.x 9 with
    | none =>
     have hqs : numF (qX t) 9 = none := by rw [hqv]; exact hn
     rw [hn] at hk2
     have hk := hk2 t.o (t :: T1) d dp trQ0 rfl ⟨rfl, rfl⟩
     refine gO1 hqs ?_
     refine failQ_a (t := t) (T := T1) (d := d) (dp := dp) (hat0 _) ?_
     rw [hset0]
     refine gO ?_
     exact Ret.drop (HOk.psQ hH) sMp oKs hk
    | some q =>
     obtain rfl := hv q hn oMg
     have hqs : numF (qX t) 9 = some v := by rw [hqv]; exact hn
     have hb := num_tok hxd hn
     have hle : v ≤ 999999999 := by omega
     rw [hn] at hk1
     have hk := hk1 _ _ _ rfl
     refine gO2 hle hqs ?_
     refine takeQ_a (t := t) (T := T1) (d := d) (dp := dp) (tl_ne hT oMg) (fun h => by rw [hq] at h; cases h) (hat0 _) ?_
     rw [hset0]
     refine gO ?_
     exact Ret.drop (HOk.psQ hH) sMp oKs hk
   ·rw [if_neg h2] at hk1 hk2
    have hq110 : ¬ qK t = 110 := fun h => h2 (hqk.2.1.1 h)
    by_cases h3 : (sgT t [40]).isSome = true
    ·rw [if_pos h3] at hk1 hk2
     have hq := h40.2 h3
     have hk3 := sgT_is h3
     have hT1 := (hT.next oMg).1
     have hcg := comp_good (d + 1) (fact_good l n (d + 1))
     obtain ⟨dp1, hdp1⟩ : ∃ dp1, dp1 = deepF d dp t := ⟨_, rfl⟩
     refine acalls Tryz.func223 rfl kRf gT (fun hH => ?_)
     refine gO2 hi' hq ?_
     refine takeQ_a (t := t) (T := T1) (d := d) (dp := dp) (tl_ne hT oMg) (fun h => by rw [hq] at h; cases h) (hat0 _) ?_
     rw [hset0, ← hdp1, psQ_row]
     refine gO1 hw1 ?_
     refine compareQ_a hl (ih (d + 1) oMg oMg) (fact_good l n (d + 1)) _ _ T1 dp1 (hat _ _) trivial hT1 oMg (fun x T' dp' h => ?_) (fun e T' d' dp' cs h hcs => ?_)
     ·obtain ⟨g1, g2, g3⟩ := hcg _ _ _ _ _ hT1 h
      obtain ⟨u, T3, rfl, hu, _⟩ := g2.head
      rw [hdp1] at h
      have he := enc1_ok h3 h
      have h5 := (encT_ok x).1
      have h6 : (encT x).take 5 = encT x := List.take_of_length_le oMg
      rw [hset, psQ_row]
      refine gO3 hw2 h5 h6 ?_
      by_cases hc : (sgT u [41]).isSome = true
      ·rw [if_pos hc] at he
       rw [he] at hk1
       have hk := hk1 _ _ _ rfl
       refine closeQ_ok (t := u) (T := T3) (d := d) (dp := dp') ⟨by omega, by omega⟩ g2 hc (hat _ _) ?_
       rw [hset]
       refine gO2 h5 h6 ?_
       exact Ret.drop (HOk.psQ hH) sMp ((encT_ok x).ok _) hk
      ·have hc' : (sgT u [41]).isSome = false := by simpa using hc
       rw [if_neg hc] at he
       rw [he] at hk2
       have hk := hk2 u.o (u :: T3) d dp' (encT x) rfl (encT_ok x)
       refine closeQ_no (t := u) (T := T3) (d := d) (dp := dp') ⟨by omega, by omega⟩ hu hc' (hat _ _) ?_
       rw [hset]
       refine gO2 h5 h6 ?_
       exact Ret.drop (HOk.psQ hH) sMp ((encT_ok x).ok _) hk
     ·rw [hdp1] at h
      have he := enc1_err h3 h
      rw [he] at hk2
      have h5 := hcs.1
      have h6 : cs.take 5 = cs := List.take_of_length_le oMg
      have hk := fun d'' => hk2 e T' d'' dp' cs rfl hcs
      rw [hset, psQ_row]
      refine gO2 h5 h6 ?_
      refine closeQ_bad (T := T') (d := IntKind.i64.wrap (d' - 1)) (dp := dp') (e := e) (hat _ _) (fun d'' => ?_)
      rw [hset]
      refine gO2 h5 h6 ?_
      exact Ret.drop (HOk.psQ hH) sMp (hcs.ok _) (hk d'')
    ·rw [if_neg h3] at hk1 hk2
     have hq40 : ¬ qK t = 40 := fun h => h3 (h40.1 h)
     by_cases h4 : t.k = 2
     ·rw [if_pos h4] at hk1 hk2
      have hq := hqk.2.2.1.2 h4
      have hT1 := (hT.next oMg).1
      refine acalls Tryz.func223 rfl kRf gT (fun hH => ?_)
      refine gO2 hi' hq ?_
      by_cases h5 : 0 < fnN t.x
      ·rw [if_pos h5] at hk1 hk2
       refine nameF_a hl (n := n) ⟨by omega, by omega⟩ (compareQ_a hl (ih (d + 1) oMg oMg) (fact_good l n (d + 1))) (comp_good (d + 1) (fact_good l n (d + 1))) hT h4 h5 oMg (hat0 _) (fun L T' dp' h => ?_) (fun e T' d' dp' cs h hcs => ?_)
       ·rw [h] at hk1
        have hk := hk1 _ _ _ rfl
        have h7 := (encT_ok (mkFn t.x L)).1
        have h6 : (encT (mkFn t.x L)).take 5 = encT (mkFn t.x L) := List.take_of_length_le oMg
        rw [hset0]
        refine gO2 h7 h6 ?_
        exact Ret.drop (HOk.psQ hH) sMp ((encT_ok _).ok _) hk
       ·rw [h] at hk2
        have hk := hk2 e T' d' dp' cs rfl hcs
        have h7 := hcs.1
        have h6 : cs.take 5 = cs := List.take_of_length_le oMg
        rw [hset0]
        refine gO2 h7 h6 ?_
        exact Ret.drop (HOk.psQ hH) sMp (hcs.ok _) hk
      ·rw [if_neg h5] at hk1 hk2
       refine nameT_a hl hT h4 h5 (hat0 _) (fun h40 => ?_) (fun h40 y T' dp' h => ?_) (fun h40 e T' d' dp' cs h hcs => ?_)
       ·rw [if_pos h40] at hk2
        have hk := hk2 t.o (t :: T1) d dp trQ0 rfl ⟨rfl, rfl⟩
        rw [hset0]
        refine gO ?_
        exact Ret.drop (HOk.psQ (T := t :: T1) (d := d) (dp := dp) (bad := t.o) hH) sMp oKs hk
       ·rw [if_neg oMg] at hk1
        have hk := hk1 _ _ _ h
        have h7 := (encT_ok y).1
        have h6 : (encT y).take 5 = encT y := List.take_of_length_le oMg
        rw [hset0]
        refine gO2 h7 h6 ?_
        exact Ret.drop (HOk.psQ hH) sMp ((encT_ok _).ok _) hk
       ·rw [if_neg oMg] at hk2
        have hk := hk2 e T' d' dp' cs h hcs
        have h7 := hcs.1
        have h6 : cs.take 5 = cs := List.take_of_length_le oMg
        rw [hset0]
        refine gO2 h7 h6 ?_
        exact Ret.drop (HOk.psQ hH) sMp (hcs.ok _) hk
     ·rw [if_neg h4] at hk2
      have hq119 : ¬ qK t = 119 := fun h => h4 (hqk.2.2.1.1 h)
      have hk := hk2 t.o (t :: T1) d dp trQ0 rfl ⟨rfl, rfl⟩
      refine acalls Tryz.func223 rfl kRf gT (fun hH => ?_)
      simp (disch := first | omega | (simp only [go_sem]; try omega)) only [go_sem, hi', hq45, hq110, hq40, hq119]
      refine failQ_a (t := t) (T := T1) (d := d) (dp := dp) (hat0 _) ?_
      rw [hset0]
      refine gO ?_
      exact Ret.drop (HOk.psQ (T := t :: T1) (d := d) (dp := dp) (bad := t.o) hH) sMp oKs hk
end Go.Proofs.YtagoolooikpabaaGreatDoor
namespace Go.Proofs.YtagoolooikpabaaGreatDoor
open Go Go.RowKit
set_option maxRecDepth 100000
set_option maxHeartbeats 4000000
variable {H : Hp} {K : AV → Hp → Prop}
theorem parsedQ_a (l : List UInt8) (hl : l.length ≤ 1000000) (hk1 : ∀ e, parF l = .ok e → K (.tup [.agg (encT e), (.c (.int .i64 0)), (.c (.int .i64 0))]) H) (hk2 : ∀ a c, parF l = .error (a, c) → K (.tup [.agg zT, (.c (.int .i64 a)), (.c (.int .i64 c))]) H) : ACalls Tryz.prog 114 [(.c (.str (tB l)))] H K := by
 have hsz := tB_size l
 unfold parF at hk1 hk2
 by_cases h5 : 500 < l.length
 ·rw [if_pos h5] at hk2
  have hk := hk2 0 2 rfl
  refine acalls Tryz.func114 rfl kRf gT (fun hH => ?_)
  refine gO2 hsz h5 ?_
  exact Ret.drop hH lRf oKs hk
 rw [if_neg h5] at hk1 hk2
 obtain ⟨n, hn⟩ : ∃ n, n = (tokF l 0).length := ⟨_, rfl⟩
 have hnl := (tokF_len l 0).2
 rw [← hn] at hk1 hk2 hnl
 have hT := Tl.top l
 have hat : ∀ (X Y : AObj) (G : Hp), (H ++ (Y :: X :: G))[H.length + 1]? = some X := fun X Y G => by rw [List.getElem?_append_right oMg]; simp
 have hset : ∀ (X Y Z : AObj) (G : Hp), (H ++ (Y :: X :: G)).set (H.length + 1) Z = H ++ (Y :: Z :: G) := fun X Y Z G => by rw [List.set_append_right _ _ oMg]; simp
 have hcg := comp_good 0 (fact_good l n 0)
 refine acalls Tryz.func114 rfl kRf gT (fun hH => ?_)
 refine gO2 hsz h5 ?_
 refine tokensQ_a l oMg ?_
 refine gO ?_
 refine compareQ_a (i := H.length + 1) oMg (factorQ_a (l := l) oMg (H.length + 1) n 0 oMg oMg) (fact_good l n 0) _ _ (tokF l 0) (-1) (hat _ _ _) trivial hT oMg (fun x T' dp' h => ?_) (fun e T' d' dp' cs h hcs => ?_)
 ·rw [h] at hk1 hk2
  obtain ⟨g1, g2, g3⟩ := hcg _ _ _ _ _ hT h
  obtain ⟨t, T2, rfl, ht, _⟩ := g2.head
  dsimp only at hk1 hk2
  have h7 := (encT_ok x).1
  have h6 : (encT x).take 5 = encT x := List.take_of_length_le oMg
  have hq := (qK_k ht).1
  rw [hset, psQ_row]
  refine gO2 h6 h7 ?_
  refine nextQ_a (t := t) (T := T2) (d := 0) (dp := dp') (bad := -1) (hat _ _ _) ?_
  by_cases h0 : t.k = 0
  ·have hp : qK t = 36 := hq.2 h0
   rw [if_neg (by simpa using h0)] at hk1 hk2
   by_cases hdp : 0 ≤ dp'
   ·rw [if_pos hdp] at hk2
    have hk := hk2 _ _ rfl
    refine gO2 hp hdp ?_
    refine w_tree (.one 0 (.one 1 (.one 2 (.one 3 (.two 4 (.one 5 (.one 6 (.one 7 .done))) 5 (.one 4 (.one 6 (.one 7 .done)))))))) kRf dKn ?_
    refine gO ?_
    all_goals (repeat' apply And.intro)
    all_goals try refine gO ?_
    all_goals (repeat' apply And.intro)
    all_goals try refine gO ?_
    all_goals exact Ret.drop hH lRf oKs hk
   ·rw [if_neg hdp] at hk1
    have hk := hk1 _ rfl
    refine gO4 hp hdp h6 h7 ?_
    refine Ret.drop hH lRf ?_ hk
    intro z hz
    simp only [List.mem_cons, List.not_mem_nil, or_false] at hz
    rcases hz with rfl | rfl | rfl
    ·exact (encT_ok x).ok _
    ·trivial
    ·trivial
  ·have hp : ¬ qK t = 36 := fun h => h0 (hq.1 h)
   rw [if_pos (by simpa using h0)] at hk2
   have hk := hk2 _ _ rfl
   refine gO1 hp ?_
   refine failQ_a (t := t) (T := T2) (d := 0) (dp := dp') (hat _ _ _) ?_
   rw [hset, psQ_row]
   have hto : (0 : Int) ≤ (t.o : Int) := by omega
   refine gO1 hto ?_
   refine w_tree (.one 0 (.one 1 (.one 2 (.one 3 (.two 4 (.one 5 (.one 6 (.one 7 .done))) 5 (.one 4 (.one 6 (.one 7 .done)))))))) kRf dKn ?_
   refine gO ?_
   all_goals (repeat' apply And.intro)
   all_goals try refine gO ?_
   all_goals (repeat' apply And.intro)
   all_goals try refine gO ?_
   all_goals exact Ret.drop hH lRf oKs hk
 ·rw [h] at hk2
  have hk := hk2 _ _ rfl
  have h7 := hcs.1
  have h6 : cs.take 5 = cs := List.take_of_length_le oMg
  rw [hset, psQ_row]
  refine gO2 h6 h7 ?_
  refine w_tree (.one 0 (.one 1 (.one 2 (.one 3 (.two 4 (.one 5 (.one 6 (.one 7 .done))) 5 (.one 4 (.one 6 (.one 7 .done)))))))) kRf dKn ?_
  refine gO ?_
  all_goals (repeat' apply And.intro)
  all_goals try refine gO ?_
  all_goals (repeat' apply And.intro)
  all_goals try refine gO ?_
  all_goals exact Ret.drop hH lRf oKs hk
theorem checkOf_a (l : List UInt8) (hl : l.length ≤ 1000000) (hk : K (.tup [(.c (.int .i64 ((chkF l).1))), (.c (.int .i64 ((chkF l).2)))]) H) : ACalls Tryz.prog 60 [(.c (.str (tB l)))] H K := by
 unfold chkF at hk
 refine acalls Tryz.func60 rfl kRf gT (fun hH => ?_)
 refine gO ?_
 refine parsedQ_a l hl (fun e h => ?_) (fun a c h => ?_)
 ·rw [h] at hk
  have h7 := (encT_ok e).1
  refine gO1 h7 ?_
  exact Ret.drop hH lRf oKs hk
 ·rw [h] at hk
  refine gO ?_
  exact Ret.drop hH lRf oKs hk
end Go.Proofs.YtagoolooikpabaaGreatDoor
