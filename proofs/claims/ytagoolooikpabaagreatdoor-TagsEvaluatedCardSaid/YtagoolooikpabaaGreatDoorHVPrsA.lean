/- Several texts in one: The program's parser: its small steps, and what follows. No condition. -/
import Derived.Test.YtagoolooikpabaaGreatDoorHVTxtS
set_option linter.all false
namespace Go.Proofs.YtagoolooikpabaaGreatDoor
open Go Go.RowKit
set_option maxRecDepth 100000
set_option maxHeartbeats 2000000
variable {H : Hp} {K : AV → Hp → Prop}
def psJ (l : List UInt8) (k a : Int) (x : ByteArray) (d dp bad : Int) : AObj := .row 216 7 [[.str (tB l), .int .i64 k, .int .i64 a, .str x, .int .i64 d, .int .i64 dp, .int .i64 bad]] true
def psO (l : List UInt8) (T : List Tok) (d dp : Int) : AObj := psJ l (prK (T.headD ⟨0, [], 0⟩)) (T.headD ⟨0, [], 0⟩).o (tB (T.headD ⟨0, [], 0⟩).x) d dp (-1)
attribute [go_sem] prT
def ndE0 : List AC := [.str ⟨#[]⟩, .int .i64 0, .str ⟨#[]⟩, .sl none 0, .bool false]
theorem isP_a {i : Nat} {l : List UInt8} {k a d dp bad : Int} {x : ByteArray} (s : ByteArray) (hi : H[i]? = some (psJ l k a x d dp bad)) (hk : K (.c (.bool (decide (k = 3 ∧ x = s)))) H) : ACalls Tryz.prog 292 [.c (.ptr (some (i, 0, 0))), (.c (.str s))] H K := by
 unfold psJ at hi
 by_cases h1 : k = 3
 ·by_cases h2 : x = s
  ·rw [decide_eq_true ⟨h1, h2⟩] at hk
   refine acalls Tryz.func292 rfl kRf gT (fun hH => ?_)
   refine gO3 hi h1 h2 ?_
   exact Ret.same lRf hk
  ·rw [decide_eq_false (fun h => h2 h.2)] at hk
   refine acalls Tryz.func292 rfl kRf gT (fun hH => ?_)
   refine gO3 hi h1 h2 ?_
   exact Ret.same lRf hk
 ·rw [decide_eq_false (fun h => h1 h.1)] at hk
  refine acalls Tryz.func292 rfl kRf gT (fun hH => ?_)
  refine gO2 hi h1 ?_
  exact Ret.same lRf hk
theorem psJ_ok {l : List UInt8} {k a d dp bad : Int} {x : ByteArray} (n : Nat) : (psJ l k a x d dp bad).okN n := by
 intro e he
 rw [List.mem_singleton] at he
 subst he
 refine ⟨rfl, fun y hy => ?_⟩
 simp only [List.mem_cons, List.not_mem_nil, or_false] at hy
 rcases hy with rfl | rfl | rfl | rfl | rfl | rfl | rfl <;> trivial
theorem HOk.psJ {l : List UInt8} {k a d dp bad : Int} {x : ByteArray} {i : Nat} (h : HOk H) : HOk (H.set i (psJ l k a x d dp bad)) := HOk.set h (psJ_ok _)
theorem Ret.nd {A : Hp} {n : Nat} {ty : Nat} {cs : List AC} {own : Bool} (hA : HOk A) (hn : n = A.length) (hp : pureL [cs] = true) (hk : K (.c (.fp cs)) A) : Ret n (.c (.ptr (some (n, 0, 0)))) (A ++ [.row ty 5 [cs] own]) K := by
 subst hn
 exact Ret.node1 (v' := .c (.fp cs)) (els := [cs]) 0 hA lRf rfl hp (by simp [AV.frzX, AV.frzX1, AC.frzX]) trivial hk
theorem failP_a {i : Nat} {l : List UInt8} {k a d dp bad : Int} {x : ByteArray} (hi : H[i]? = some (psJ l k a x d dp bad)) (hk : K (.c (.fp ndE0)) (H.set i (psJ l k a x d dp (if bad < 0 then a else bad)))) : ACalls Tryz.prog 154 [.c (.ptr (some (i, 0, 0)))] H K := by
 have hil := getElem?_lt hi
 by_cases h1 : bad < 0
 ·rw [if_pos h1] at hk
  unfold psJ at hi
  refine acalls Tryz.func154 rfl kRf gT (fun hH => ?_)
  refine gO2 hi h1 ?_
  exact Ret.nd (HOk.psJ (l := l) (k := k) (a := a) (x := x) (d := d) (dp := dp) (bad := a) hH) sMp rfl hk
 ·rw [if_neg h1, set_same hi] at hk
  unfold psJ at hi
  refine acalls Tryz.func154 rfl kRf gT (fun hH => ?_)
  refine gO2 hi h1 ?_
  exact Ret.nd hH rfl rfl hk
theorem is_tok {l : List UInt8} {t : Tok} (h : tkOk l t) (c : UInt8) : decide (prK t = 3 ∧ tB t.x = tB [c]) = (sgT t [c]).isSome := by
 unfold sgT prK
 rcases h.2.2 with h | h | h | h | h
 ·rw [h.1]; rfl
 ·rw [h.1, if_pos rfl, if_neg (show ¬ (1 : Nat) = 3 by decide)]
  split <;> rfl
 ·rw [h.1]
  rw [if_neg (show ¬ (2 : Nat) = 1 by decide), if_pos rfl, if_neg (show ¬ (2 : Nat) = 3 by decide)]
  split <;> rfl
 ·obtain ⟨d, _, hd⟩ := h.2
  rw [h.1, hd, if_neg (show ¬ (3 : Nat) = 1 by decide), if_neg (show ¬ (3 : Nat) = 2 by decide), if_pos rfl]
  dsimp only
  by_cases e : d = c
  ·subst e
   rw [if_pos sMp]
   simp
  ·rw [if_neg (by simpa using e)]
   rw [decide_eq_false]
   ·rfl
   ·rintro ⟨_, h2⟩
    rw [tB_inj] at h2
    exact e (by simpa using h2)
 ·rw [h.1]; rfl
theorem psO_cons (l : List UInt8) (t : Tok) (T : List Tok) (d dp : Int) : psO l (t :: T) d dp = psJ l (prK t) t.o (tB t.x) d dp (-1) := rfl
theorem isT_a {i : Nat} {l : List UInt8} {t : Tok} {T : List Tok} {d dp : Int} (c : UInt8) (s : ByteArray) (hs : s = tB [c]) (ht : tkOk l t) (hi : H[i]? = some (psO l (t :: T) d dp)) (hk : K (.c (.bool ((sgT t [c]).isSome))) H) : ACalls Tryz.prog 292 [.c (.ptr (some (i, 0, 0))), (.c (.str s))] H K := by
 subst hs
 rw [← is_tok ht c] at hk
 exact isP_a _ hi hk
theorem nextP_a {i : Nat} {l : List UInt8} {t : Tok} {T : List Tok} {d dp : Int} (hl : l.length ≤ 1000) (hT : Tl l (t :: T)) (ht : t.k ≠ 0 ∧ t.k ≠ 4) (hi : H[i]? = some (psO l (t :: T) d dp)) (hk : K (.tup []) (H.set i (psO l T d (deepF d dp t)))) : ACalls Tryz.prog 246 [.c (.ptr (some (i, 0, 0)))] H K := by
 have hil := getElem?_lt hi
 have hto := hT.ok
 have h1 := hto.1
 have hsz := tB_size t.x
 have hT1 : T = tokF (l.drop (t.o + t.x.length)) (t.o + t.x.length) := by
  obtain ⟨t', T1, e, _, h2⟩ := hT.head
  injection e with e1 e2
  subst e1 e2
  rcases h2 with ⟨h2, _⟩ | ⟨_, h2, _⟩
  ·omega
  ·exact h2
 obtain ⟨o', ho'⟩ : ∃ o', o' = t.o + t.x.length := ⟨_, rfl⟩
 have ho2 : (t.o : Int) + (t.x.length : Int) = (o' : Int) := by omega
 rw [← ho'] at hT1 h1
 have hfin : ∀ (u : Tok) (T' : List Tok), tokF (l.drop o') o' = u :: T' → K (.tup []) (H.set i (psJ l (prK u) u.o (tB u.x) d (deepF d dp t) (-1))) := fun u T' hu => by
  rw [← hT1] at hu
  rw [hu] at hk
  exact hk
 rw [psO_cons] at hi
 unfold psJ at hi hfin
 by_cases h2 : dp < 0
 ·by_cases h3 : 20 < d
  ·have hd : deepF d dp t = t.o := by unfold deepF; rw [if_pos ⟨h2, h3⟩]
   rw [hd] at hfin
   refine acalls Tryz.func246 rfl kRf gT (fun hH => ?_)
   refine gO3 hi h2 h3 ?_
   repeat' (first | ((first | refine acond_d ?_ ?_ | refine acond_b ?_ ?_ | refine ag_d ?_ ?_ | refine ag_n ?_ ?_ | refine ag_bt ?_ ?_ | refine ag_bf ?_ ?_) <;> intro c <;> try refine gO3 c hsz ho2 ?_) | ((first | refine w_draw kRf dKn ?_ | refine scan_a l o' h1 hl (fun u T' hu => ?_)) <;> try refine gO2 hsz ho2 ?_))
   exact Ret.same sMp (hfin u T' hu)
  ·have hd : deepF d dp t = dp := by unfold deepF; rw [if_neg (fun h => h3 h.2)]
   rw [hd] at hfin
   refine acalls Tryz.func246 rfl kRf gT (fun hH => ?_)
   refine gO3 hi h2 h3 ?_
   repeat' (first | ((first | refine acond_d ?_ ?_ | refine acond_b ?_ ?_ | refine ag_d ?_ ?_ | refine ag_n ?_ ?_ | refine ag_bt ?_ ?_ | refine ag_bf ?_ ?_) <;> intro c <;> try refine gO4 c hsz ho2 hi ?_) | ((first | refine w_draw kRf dKn ?_ | refine scan_a l o' h1 hl (fun u T' hu => ?_)) <;> try refine gO3 hsz ho2 hi ?_))
   exact Ret.same sMp (hfin u T' hu)
 ·have hd : deepF d dp t = dp := by unfold deepF; rw [if_neg (fun h => h2 h.1)]
  rw [hd] at hfin
  refine acalls Tryz.func246 rfl kRf gT (fun hH => ?_)
  refine gO2 hi h2 ?_
  repeat' (first | ((first | refine acond_d ?_ ?_ | refine acond_b ?_ ?_ | refine ag_d ?_ ?_ | refine ag_n ?_ ?_ | refine ag_bt ?_ ?_ | refine ag_bf ?_ ?_) <;> intro c <;> try refine gO4 c hsz ho2 hi ?_) | ((first | refine w_draw kRf dKn ?_ | refine scan_a l o' h1 hl (fun u T' hu => ?_)) <;> try refine gO3 hsz ho2 hi ?_))
  exact Ret.same sMp (hfin u T' hu)
end Go.Proofs.YtagoolooikpabaaGreatDoor
namespace Go.Proofs.YtagoolooikpabaaGreatDoor
open Go Go.RowKit
set_option maxRecDepth 100000
set_option maxHeartbeats 2000000
variable {H : Hp} {K : AV → Hp → Prop}
theorem ix_mem (c : UInt8) : ∀ l : List UInt8, decide (0 ≤ Lib.indexByte l c) = decide (c ∈ l)
 | [] => rfl
 | b :: l => by
  have ih := ix_mem c l
  unfold Lib.indexByte
  by_cases h : b = c
  ·subst h
   simp
  ·have h' : (b == c) = false := by simpa using h
   rw [h']
   have hm : decide (c ∈ b :: l) = decide (c ∈ l) := by
    congr 1
    rw [List.mem_cons, eq_iff_iff]
    exact ⟨fun e => e.resolve_left (fun e => h e.symm), .inr⟩
   rw [hm, ← ih]
   by_cases h1 : Lib.indexByte l c = -1
   ·rw [h1]; rfl
   ·have h2 : (Lib.indexByte l c == -1) = false := by simpa using h1
    rw [h2]
    have key : ∀ l : List UInt8, -1 ≤ Lib.indexByte l c := by
     intro l
     induction l with
     | nil => exact Int.le_refl _
     | cons x r ih =>
      unfold Lib.indexByte
      split
      ·omega
      ·split
       ·omega
       ·omega
    have := key l
    rw [if_neg (by decide), if_neg (by decide)]
    congr 1
    rw [eq_iff_iff]
    omega
theorem containsC_a (ops : List UInt8) (c : UInt8) (hk : K (.c (.bool (decide (c ∈ ops)))) H) : ACalls Tryz.prog 58 [(.c (.str (tB ops))), (.c (.str (tB [c])))] H K := by
 refine acalls Tryz.func58 rfl kRf gT (fun hH => ?_)
 refine gO ?_
 refine indexS_a (tB ops) c ?_
 rw [show tL (tB ops) = ops from tL_tB ops]
 refine gO ?_
 rw [ix_mem]
 exact Ret.same lRf hk
def encNd : Ex → List AC
 | .num n => [.str ⟨#[110, 117, 109, 98, 101, 114]⟩, .int .i64 n, .str ⟨#[]⟩, .sl none 0, .bool false]
 | .tag x none => [.str ⟨#[116, 97, 103]⟩, .int .i64 0, .str (tB x), .sl none 0, .bool false]
 | .tag x (some n) => [.str ⟨#[116, 97, 103]⟩, .int .i64 n, .str (tB x), .sl none 0, .bool true]
 | .neg a => [.str ⟨#[109, 105, 110, 117, 115]⟩, .int .i64 0, .str ⟨#[]⟩, .lst 1 [[.fp (encNd a)]], .bool false]
 | .bin c a b => [.str (tB [c]), .int .i64 0, .str ⟨#[]⟩, .lst 1 [[.fp (encNd a)], [.fp (encNd b)]], .bool false]
 | .f1 f a => [.str (tB f), .int .i64 0, .str ⟨#[]⟩, .lst 1 [[.fp (encNd a)]], .bool false]
 | .f2 f a b => [.str (tB f), .int .i64 0, .str ⟨#[]⟩, .lst 1 [[.fp (encNd a)], [.fp (encNd b)]], .bool false]
 | .f3 f a b c => [.str (tB f), .int .i64 0, .str ⟨#[]⟩, .lst 1 [[.fp (encNd a)], [.fp (encNd b)], [.fp (encNd c)]], .bool false]
def RdC (f : FuncId) (l : List UInt8) (n : Nat) (d : Int) (rd : List Tok → Int → PR Ex) : Prop :=
 ∀ (i : Nat) (H : Hp) (K : AV → Hp → Prop) (T : List Tok) (dp : Int), H[i]? = some (psO l T d dp) → Tl l T → T.length ≤ n →
  (∀ x T' dp', rd T dp = .ok (x, T', dp') → K (.c (.fp (encNd x))) (H.set i (psO l T' d dp'))) →
  (∀ (e : Nat) (k a : Int) (s : ByteArray) (d' dp' : Int) (cs : List AC), rd T dp = .error e → K (.c (.fp cs)) (H.set i (psJ l k a s d' dp' e))) →
  ACalls Tryz.prog f [.c (.ptr (some (i, 0, 0)))] H K
structure JS where
 x : Ex
 T : List Tok
 dp : Int
 m : Nat
structure JE where
 e : Nat
 cs : List AC
 k : Int
 a : Int
 s : ByteArray
 d : Int
 dp : Int
def jV : JS ⊕ JE → AV
 | .inl q => .c (.fp (encNd q.x))
 | .inr q => .c (.fp q.cs)
def jO (l : List UInt8) (d : Int) : JS ⊕ JE → AObj
 | .inl q => psO l q.T d q.dp
 | .inr q => psJ l q.k q.a q.s q.d q.dp q.e
def jI (l : List UInt8) (ops : List UInt8) (rd : List Tok → Int → PR Ex) (d : Int) (many : Bool) (N : Nat) (res : PR Ex) : JS ⊕ JE → Prop
 | .inl q => rowF ops rd d q.m q.x q.T q.dp = res ∧ Tl l q.T ∧ q.T.length ≤ N ∧ (many = true → q.T.length ≤ q.m) ∧ (many = false → q.m = 1)
 | .inr q => res = .error q.e
def jM : JS ⊕ JE → Nat
 | .inl q => q.T.length + 1
 | .inr _ => 0
theorem WkL.bin {A : Hp} {m n : Nat} {ty1 ty2 : Nat} {s : ByteArray} {x y : List AC} {o1 o2 : Bool} (hA : HOk A) (hm : m = A.length) (hn : n = A.length) (hn2 : n + 1 = A.length + 1) : WkL m [.c (.ptr (some (n + 1, 0, 0)))] (A ++ [.row ty1 1 [[.fp x], [.fp y]] o1, .row ty2 5 [[.str s, .int .i64 0, .str ⟨#[]⟩, .sl (some (n, 0)) 2, .bool false]] o2]) [.c (.fp [.str s, .int .i64 0, .str ⟨#[]⟩, .lst 1 [[.fp x], [.fp y]], .bool false])] A := by
 subst hn
 refine WkL.node (els := [[.fp x], [.fp y]]) (cs' := [.str s, .int .i64 0, .str ⟨#[]⟩, .lst 1 [[.fp x], [.fp y]], .bool false]) 0 1 hA oMg rfl rfl rfl (by decide) ?_ rfl ?_ ?_
 ·simp [AC.frzX]
 ·simp [AV.frzX, AV.frzX1, AC.frzX]
 ·intro z hz
  rw [List.mem_singleton] at hz
  subst hz
  trivial
theorem joined_a {l : List UInt8} (hl : l.length ≤ 1000) {f : FuncId} {n : Nat} {d : Int} {rd : List Tok → Int → PR Ex} (hent : entersB Tryz.prog f = true) (hrd : RdC f l n d rd) (hg : RdG l rd) (ops : List UInt8) (many : Bool) (i : Nat) (T : List Tok) (dp : Int)
  (hi : H[i]? = some (psO l T d dp)) (hT : Tl l T) (hn : T.length ≤ n)
  (hk1 : ∀ x T' dp', joinF ops many rd d T dp = .ok (x, T', dp') → K (.c (.fp (encNd x))) (H.set i (psO l T' d dp')))
  (hk2 : ∀ (e : Nat) (k a : Int) (s : ByteArray) (d' dp' : Int) (cs : List AC), joinF ops many rd d T dp = .error e → K (.c (.fp cs)) (H.set i (psJ l k a s d' dp' e))) :
  ACalls Tryz.prog 193 [.c (.ptr (some (i, 0, 0))), .c (.fn f [(i, 0, 0)] []), (.c (.str (tB ops))), (.c (.bool many))] H K := by
 have hil := getElem?_lt hi
 refine acalls Tryz.func193 rfl kRf gT (fun hH => ?_)
 refine gO1 hent ?_
 refine hrd i H _ T dp hi hT hn (fun x T1 dp1 h1 => ?_) (fun e k a s d' dp' cs h1 => ?_)
 ·obtain ⟨g1, g2, g3⟩ := hg _ _ _ _ _ hT h1
  have hj : joinF ops many rd d T dp = rowF ops rd d (if many = true then T1.length else 1) x T1 dp1 := by unfold joinF; rw [h1]
  rw [hj] at hk1 hk2
  obtain ⟨res, hres⟩ : ∃ res, res = rowF ops rd d (if many = true then T1.length else 1) x T1 dp1 := ⟨_, rfl⟩
  rw [← hres] at hk1 hk2
  refine gO ?_
  refine AWp.loop (H.length) [0, 1, 2, 3] [9] (fun (s : JS ⊕ JE) => jI l ops rd d many T1.length res s) (fun (s : JS ⊕ JE) => [(9, jV s)]) (fun (s : JS ⊕ JE) => H.set i (jO l d s)) (fun (s : JS ⊕ JE) => jM s) kRf (fun _ => rfl) kRf sOo sOm kl ?_ (fun s q _ _ => ?_)
  ·refine Next.mk (.inl ⟨x, T1, dp1, if many = true then T1.length else 1⟩) ⟨hres.symm, g2, Nat.le_refl _, fun h => ?_, fun h => ?_⟩ wk
   ·rw [if_pos h]; exact Nat.le_refl _
   ·rw [h]; rfl
  rcases s with ⟨x, T, dp, m⟩ | ⟨e, cs, k, a, s, d', dp'⟩
  ·obtain ⟨q1, q2, q3, q4, q5⟩ := q
   dsimp only at q1 q2 q3 q4 q5
   obtain ⟨t, T2, rfl, htk, _⟩ := q2.head
   obtain ⟨m', rfl⟩ : ∃ m', m = m' + 1 := by
    cases many with
    | true => have := q4 rfl; rw [List.length_cons] at this; exact ⟨m - 1, by omega⟩
    | false => exact ⟨0, q5 rfl⟩
   have hstep : rowF ops rd d (m' + 1) x (t :: T2) dp = match sgT t ops with
    | none => .ok (x, t :: T2, dp)
    | some c => match rd T2 (deepF d dp t) with
     | .error e => .error e
     | .ok (y, T3, dp3) => rowF ops rd d m' (.bin c x y) T3 dp3 := rfl
   rw [q1] at hstep
   dsimp only [jV, jO]
   rw [psO_cons]
   unfold psJ
   by_cases hk3 : t.k = 3
   ·obtain ⟨c, hc1, hc2⟩ : ∃ c ∈ sgnL, t.x = [c] := by
     rcases htk.2.2 with h | h | h | h | h
     ·omega
     ·omega
     ·omega
     ·exact h.2
     ·omega
    have hpk : prK t = 3 := by unfold prK; rw [hk3]; rfl
    refine gO2 hpk hc2 ?_
    refine containsC_a ops c ?_
    by_cases hco : c ∈ ops
    ·have hsg : sgT t ops = some c := by unfold sgT; rw [if_pos hk3, hc2]; dsimp only; rw [if_pos hco]
     rw [hsg] at hstep
     dsimp only at hstep
     have hT2 : Tl l T2 := (q2.next oMg).1
     rw [decide_eq_true hco]
     refine gO ?_
     refine nextP_a (t := t) (T := T2) (d := d) (dp := dp) hl q2 oMg (by rw [List.getElem?_set_self hil, psO_cons, hc2, hpk]; rfl) ?_
     refine gO2 hc2 hent ?_
     rw [List.length_cons] at q3
     refine hrd i _ _ T2 (deepF d dp t) (List.getElem?_set_self (by simpa using hil)) hT2 oMg (fun y T3 dp3 hy => ?_) (fun e k a s d' dp' cs hy => ?_)
     ·rw [hy] at hstep
      dsimp only at hstep
      obtain ⟨r1, r2, r3⟩ := hg _ _ _ _ _ hT2 hy
      have hok : HOk (H.set i (psO l T3 d dp3)) := HOk.psJ hH
      cases many with
      | true =>
       refine gO ?_
       refine Next.mk (.inl ⟨.bin c x y, T3, dp3, m'⟩) ⟨⟨hstep.symm, r2, by dsimp only; omega, fun _ => ?_, fun h => by cases h⟩, ?_⟩ ?_
       ·have := q4 rfl
        dsimp only
        rw [List.length_cons] at this
        omega
       ·show T3.length + 1 < (t :: T2).length + 1
        rw [List.length_cons]
        omega
       ·exact WkL.bin hok sMp sMp sMp
      | false =>
       have hm0 : m' = 0 := by have := q5 rfl; omega
       subst hm0
       refine gO ?_
       exact Ret.wk (WkL.bin hok sMp sMp sMp) (hk1 _ _ _ hstep)
     ·rw [hy] at hstep
      dsimp only at hstep
      have hok : HOk (H.set i (psJ l k a s d' dp' e)) := HOk.psJ hH
      cases many with
      | true =>
       refine gO ?_
       refine Next.mk (.inr ⟨e, [.str (tB [c]), .int .i64 0, .str ⟨#[]⟩, .lst 1 [[.fp (encNd x)], [.fp cs]], .bool false], k, a, s, d', dp'⟩) ⟨hstep, ?_⟩ ?_
       ·show 0 < (t :: T2).length + 1
        omega
       ·exact WkL.bin hok sMp sMp sMp
      | false =>
       refine gO ?_
       exact Ret.wk (WkL.bin hok sMp sMp sMp) (hk2 _ _ _ _ _ _ _ hstep)
    ·have hsg : sgT t ops = none := by unfold sgT; rw [if_pos hk3, hc2]; dsimp only; rw [if_neg hco]
     rw [hsg] at hstep
     have hk := hk1 _ _ _ hstep
     rw [psO_cons, hc2, hpk] at hk
     unfold psJ at hk
     rw [decide_eq_false hco]
     refine gO ?_
     exact Ret.same sMp hk
   ·have hsg : sgT t ops = none := by unfold sgT; rw [if_neg hk3]
    have hpk : ¬ prK t = 3 := by
     unfold prK
     rcases htk.2.2 with h | h | h | h | h
     ·rw [h.1]; simp
     ·rw [h.1, if_pos rfl]; split <;> decide
     ·rw [h.1, if_neg (show ¬ (2 : Nat) = 1 by decide), if_pos rfl]; split <;> decide
     ·exact absurd h.1 hk3
     ·rw [h.1]; simp
    rw [hsg] at hstep
    have hk := hk1 _ _ _ hstep
    rw [psO_cons] at hk
    unfold psJ at hk
    refine gO1 hpk ?_
    exact Ret.same sMp hk
  ·have hk := hk2 e k a s d' dp' cs q
   unfold psJ at hk
   dsimp only [jV, jO]
   unfold psJ
   refine gO ?_
   exact Ret.same sMp hk
 ·have hj : joinF ops many rd d T dp = .error e := by unfold joinF; rw [h1]
  have hk := hk2 e k a s d' dp' cs hj
  unfold psJ at hk ⊢
  refine gO ?_
  refine AWp.rounds 0 kRf ?_
  refine gO ?_
  exact Ret.same sMp hk
end Go.Proofs.YtagoolooikpabaaGreatDoor
namespace Go.Proofs.YtagoolooikpabaaGreatDoor
open Go Go.RowKit
set_option maxRecDepth 100000
set_option maxHeartbeats 2000000
variable {H : Hp} {K : AV → Hp → Prop}
theorem takeP_ok {i : Nat} {l : List UInt8} {t : Tok} {T : List Tok} {d dp : Int} (c : UInt8) (s : ByteArray) (hs : s = tB [c]) (hl : l.length ≤ 1000) (hT : Tl l (t :: T)) (hc : (sgT t [c]).isSome = true) (hi : H[i]? = some (psO l (t :: T) d dp)) (hk : K (.tup []) (H.set i (psO l T d (deepF d dp t)))) : ACalls Tryz.prog 308 [.c (.ptr (some (i, 0, 0))), (.c (.str s))] H K := by
 have hil := getElem?_lt hi
 have hi' := hi
 have hk3 := sgT_is hc
 rw [psO_cons] at hi
 unfold psJ at hi
 refine acalls Tryz.func308 rfl kRf gT (fun hH => ?_)
 refine gO1 hi ?_
 refine isT_a c s hs hT.ok hi' ?_
 rw [hc]
 refine gO ?_
 refine nextP_a hl hT oMg hi' ?_
 refine gO ?_
 exact Ret.same sMp hk
theorem takeP_no {i : Nat} {l : List UInt8} {t : Tok} {T : List Tok} {d dp : Int} (c : UInt8) (s : ByteArray) (hs : s = tB [c]) (hT : tkOk l t) (hc : (sgT t [c]).isSome = false) (hi : H[i]? = some (psO l (t :: T) d dp)) (hk : K (.tup []) (H.set i (psJ l (prK t) t.o (tB t.x) d dp t.o))) : ACalls Tryz.prog 308 [.c (.ptr (some (i, 0, 0))), (.c (.str s))] H K := by
 have hil := getElem?_lt hi
 have hi' := hi
 rw [psO_cons] at hi
 unfold psJ at hi
 refine acalls Tryz.func308 rfl kRf gT (fun hH => ?_)
 refine gO1 hi ?_
 refine isT_a c s hs hT hi' ?_
 rw [hc]
 refine gO ?_
 refine failP_a (by rw [psO_cons] at hi'; exact hi') ?_
 rw [if_pos (by decide)]
 refine gO ?_
 exact Ret.same sMp hk
theorem takeP_bad {i : Nat} {l : List UInt8} {k a d dp : Int} {x : ByteArray} {e : Nat} (s : ByteArray) (hi : H[i]? = some (psJ l k a x d dp e)) (hk : K (.tup []) H) : ACalls Tryz.prog 308 [.c (.ptr (some (i, 0, 0))), (.c (.str s))] H K := by
 have hil := getElem?_lt hi
 have hi' := hi
 unfold psJ at hi
 refine acalls Tryz.func308 rfl kRf gT (fun hH => ?_)
 refine gO1 hi ?_
 refine failP_a hi' ?_
 rw [if_neg oMg, set_same hi']
 refine gO ?_
 exact Ret.same lRf hk
theorem Ret.un {A : Hp} {m n : Nat} {ty1 ty2 : Nat} {s : ByteArray} {x : List AC} {o1 o2 : Bool} (hA : HOk A) (hm : m = A.length) (hn : n = A.length) (hk : K (.c (.fp [.str s, .int .i64 0, .str ⟨#[]⟩, .lst 1 [[.fp x]], .bool false])) A) : Ret m (.c (.ptr (some (n + 1, 0, 0)))) (A ++ [.row ty1 1 [[.fp x]] o1, .row ty2 5 [[.str s, .int .i64 0, .str ⟨#[]⟩, .sl (some (n, 0)) 1, .bool false]] o2]) K := by
 subst hn
 refine Ret.node (els := [[.fp x]]) (cs' := [.str s, .int .i64 0, .str ⟨#[]⟩, .lst 1 [[.fp x]], .bool false]) 0 1 hA oMg rfl rfl rfl (by decide) ?_ rfl ?_ ?_ hk
 ·simp [AC.frzX]
 ·simp [AV.frzX, AV.frzX1, AC.frzX]
 ·trivial
theorem psO_ok {l : List UInt8} {T : List Tok} {d dp : Int} (n : Nat) : (psO l T d dp).okN n := psJ_ok n
theorem minusP_a {l : List UInt8} (hl : l.length ≤ 1000) {n : Nat} {d : Int} (hd : 0 ≤ d ∧ d ≤ 100000) {rd : List Tok → Int → PR Ex} (hrd : RdC 275 l n (d + 1) rd) {i : Nat} {t : Tok} {T : List Tok} {dp : Int} (hT : Tl l (t :: T)) (hn : T.length ≤ n) (hc : t.k = 3) (hi : H[i]? = some (psO l (t :: T) d dp))
  (hk1 : ∀ x T' dp', rd T (deepF d dp t) = .ok (x, T', dp') → K (.c (.fp (encNd (.neg x)))) (H.set i (psO l T' d dp')))
  (hk2 : ∀ (e : Nat) (k a : Int) (s : ByteArray) (d' dp' : Int) (cs : List AC), rd T (deepF d dp t) = .error e → K (.c (.fp cs)) (H.set i (psJ l k a s d' dp' e))) : ACalls Tryz.prog 293 [.c (.ptr (some (i, 0, 0)))] H K := by
 have hil := getElem?_lt hi
 have hTt : Tl l T := (hT.next oMg).1
 obtain ⟨u, T2, hu, _⟩ := hTt.head
 have hw1 : IntKind.i64.wrap (d + 1) = d + 1 := by rw [IntKind.wrap_i64]; omega
 have hw2 : IntKind.i64.wrap (d + 1 - 1) = d := by rw [IntKind.wrap_i64]; omega
 refine acalls Tryz.func293 rfl kRf gT (fun hH => ?_)
 refine gO ?_
 refine nextP_a hl hT oMg hi ?_
 rw [hu, psO_cons]
 unfold psJ
 refine gO1 hw1 ?_
 refine hrd i _ _ T (deepF d dp t) (by rw [List.getElem?_set_self (by simpa using hil), hu]; rfl) hTt hn (fun x T' dp' h1 => ?_) (fun e k a s d' dp' cs h1 => ?_)
 ·have hk := hk1 x T' dp' h1
  unfold psO psJ at hk ⊢
  refine gO1 hw2 ?_
  exact Ret.un (HOk.psJ hH) sMp sMp hk
 ·have hk := hk2 e k a s (IntKind.i64.wrap (d' - 1)) dp' [.str ⟨#[109, 105, 110, 117, 115]⟩, .int .i64 0, .str ⟨#[]⟩, .lst 1 [[.fp cs]], .bool false] h1
  unfold psJ at hk ⊢
  refine gO ?_
  exact Ret.un (HOk.psJ hH) sMp sMp hk
theorem num_atoi {x : List UInt8} {v : Int} (h : numF x 9 = some v) : Lib.atoi x = some v := by
 rw [numF_eq] at h
 split at h
 ·cases h
 ·split at h
  ·cases h
  ·split at h
   ·exact h
   ·cases h
theorem prK_1 {t : Tok} (hk : t.k = 1) (hd : ∀ c ∈ t.x, isDg c = true) (hx : t.x ≠ []) : prK t = if (numF t.x 9).isSome = true then 1 else 4 := by
 have hb := digs_all hd
 have hh : t.x.head? ≠ some 45 := (dig_head hb).1
 have hs := strip_pos hh
 unfold prK
 rw [if_pos hk]
 by_cases h9 : 9 < t.x.length
 ·have e : numF t.x 9 = none := by rw [numF_eq, hs, if_pos (.inr h9)]
  rw [if_pos (.inl h9), e]; rfl
 ·by_cases h0 : 1 < t.x.length ∧ t.x.head? = some 48
  ·have e : numF t.x 9 = none := by rw [numF_eq, hs, if_neg (fun h => h.elim hx h9), if_pos ⟨h0.2, .inl h0.1⟩]
   rw [if_pos (.inr h0), e]; rfl
  ·obtain ⟨u, g1, g2⟩ := atoi_dig (l := t.x) (by rw [hs]; exact hb) (by rw [hs]; exact hx)
   have e : numF t.x 9 = some (if t.x.head? = some 45 then -(u : Int) else u) := by rw [numF_eq, hs, if_neg (fun h => h.elim hx h9), if_neg (fun h => h0 ⟨h.2.resolve_right oMg, h.1⟩), if_pos hb]; exact g2
   rw [if_neg (fun h => h.elim h9 h0), e]; rfl
theorem prK_k {l : List UInt8} {t : Tok} (h : tkOk l t) : (prK t = 1 ↔ t.k = 1 ∧ (numF t.x 9).isSome = true) ∧ (prK t = 2 ↔ t.k = 2 ∧ t.x.length ≤ 40) ∧ (prK t = 3 ↔ t.k = 3) ∧ (prK t = 0 ↔ t.k = 0) := by
 rcases h.2.2 with h | h | h | h | h
 ·unfold prK; rw [h.1]; simp
 ·have h1 := prK_1 h.1 h.2.2 h.2.1
  rw [h1, h.1]
  split <;> simp_all
 ·unfold prK; rw [h.1, if_neg (show ¬ (2 : Nat) = 1 by decide), if_pos rfl]
  split
  ·rename_i h2
   simp
   omega
  ·rename_i h2
   simp
   omega
 ·unfold prK; rw [h.1]; simp
 ·unfold prK; rw [h.1]; simp
theorem atoiTok_a (x : List UInt8) (hx : x.length ≤ 1000) (hk : ∀ (v : Int) (e : AC), (∀ n, numF x 9 = some n → v = n) → (e = .nili ∨ e = .ifc) → K (.tup [(.c (.int .i64 v)), .c e]) H) : ACalls Tryz.prog 294 [(.c (.str (tB x)))] H K := by
 by_cases hs : ∃ n, numF x 9 = some n
 ·obtain ⟨n, hn⟩ := hs
  have hlen : x.length ≤ 10 := by
   rw [numF_eq] at hn
   have := (strip_le x).2
   split at hn
   ·cases hn
   ·rename_i h; omega
  exact atoi_a (tB x) n (by rw [tB_size]; omega) (by rw [show (tB x).data.toList = x from tL_tB x]; exact num_atoi hn) (hk n .nili (fun m hm => by rw [hn] at hm; exact Option.some.inj hm) (.inl rfl))
 ·have hno : ∀ v n, numF x 9 = some n → v = n := fun v n hn => absurd ⟨n, hn⟩ hs
  exact atoiAny_a (tB x) (by rw [tB_size]; omega) (fun v _ => hk v .nili (hno v) (.inl rfl)) (fun _ v => hk v .ifc (hno v) (.inr rfl))
theorem shiftedP_a {l : List UInt8} (hl : l.length ≤ 1000) {d dp : Int} (x : List UInt8) {i j : Nat} (hij : i ≠ j) {T : List Tok} (hT : Tl l T) (hi : H[i]? = some (psO l T d dp)) (hj : H[j]? = some (.row 233 5 [[.str ⟨#[116, 97, 103]⟩, .int .i64 0, .str (tB x), .sl none 0, .bool false]] true))
  (hk1 : ∀ y T' dp', shfF x d T dp = .ok (y, T', dp') → K (.c (.ptr (some (j, 0, 0)))) ((H.set i (psO l T' d dp')).set j (.row 233 5 [encNd y] true)))
  (hk2 : ∀ (e : Nat) (k a : Int) (s : ByteArray) (d' dp' : Int) (cs : List AC), shfF x d T dp = .error e → K (.c (.fp cs)) (H.set i (psJ l k a s d' dp' e))) : ACalls Tryz.prog 296 [.c (.ptr (some (i, 0, 0))), .c (.ptr (some (j, 0, 0)))] H K := by
 have hil := getElem?_lt hi
 have hjl := getElem?_lt hj
 have hjg : H[j] = .row 233 5 [[.str ⟨#[116, 97, 103]⟩, .int .i64 0, .str (tB x), .sl none 0, .bool false]] true := by
  rw [List.getElem?_eq_getElem hjl] at hj
  exact Option.some.inj hj
 obtain ⟨u, T2, rfl, hu, _⟩ := hT.head
 unfold shfF at hk1 hk2
 dsimp only at hk1 hk2
 refine acalls Tryz.func296 rfl kRf gT (fun hH => ?_)
 refine gO ?_
 refine isT_a 64 _ rfl hu hi ?_
 by_cases hsg : (sgT u [64]).isSome = true
 ·rw [if_pos hsg] at hk1 hk2
  rw [hsg]
  have hk3 := sgT_is hsg
  have hT2 := (hT.next oMg).1
  obtain ⟨v, T3, rfl, hv, _⟩ := hT2.head
  dsimp only at hk1 hk2
  refine gO ?_
  refine nextP_a hl hT oMg hi ?_
  rw [psO_cons]
  unfold psJ
  have hvx : v.x.length ≤ 1000 := by have := hv.1; omega
  refine gO ?_
  refine atoiTok_a v.x hvx (fun n e hn he => ?_)
  have hkind := prK_k hv
  by_cases h1 : prK v = 1
  ·obtain ⟨h2, h3⟩ := hkind.1.1 h1
   obtain ⟨q, hq⟩ := Option.isSome_iff_exists.1 h3
   have hnq := hn q hq
   subst hnq
   rw [if_pos h2, hq] at hk1 hk2
   dsimp only at hk1 hk2
   by_cases h4 : n ≤ 86400000
   ·rw [if_pos h4] at hk1
    have hk := hk1 _ _ _ rfl
    have h4' : ¬ 86400000 < n := by omega
    have hT3 := (hT2.next oMg).1
    obtain ⟨w, T4, rfl, hw, _⟩ := hT3.head
    refine gO3 h1 h4' hjg ?_
    refine nextP_a (t := v) (T := w :: T4) (d := d) (dp := deepF d dp u) hl hT2 oMg (by rw [List.getElem?_set_ne (Ne.symm hij), List.getElem?_set_self hil, psO_cons, h1]; rfl) ?_
    refine gO ?_
    rw [show ∀ A B C : AObj, ((H.set i A).set j B).set i C = (H.set i C).set j B from fun A B C => by rw [List.set_comm _ _ hij, List.set_set, List.set_comm _ _ (Ne.symm hij)]]
    exact Ret.same sMp hk
   ·rw [if_neg h4] at hk2
    have h4' : 86400000 < n := by omega
    have hk := hk2 v.o (prK v) v.o (tB v.x) d (deepF d dp u) ndE0 rfl
    rw [h1] at hk
    refine gO2 h1 h4' ?_
    refine failP_a (l := l) (k := 1) (a := v.o) (x := tB v.x) (d := d) (dp := deepF d dp u) (bad := -1) (List.getElem?_set_self hil) ?_
    rw [if_pos (by decide)]
    refine gO ?_
    exact Ret.same sMp hk
  ·have hno : ¬ (v.k = 1 ∧ (numF v.x 9).isSome = true) := fun h => h1 (hkind.1.2 h)
   have hk : K (.c (.fp ndE0)) (H.set i (psJ l (prK v) v.o (tB v.x) d (deepF d dp u) v.o)) := by
    refine hk2 v.o (prK v) v.o (tB v.x) d (deepF d dp u) ndE0 ?_
    by_cases h2 : v.k = 1
    ·rw [if_pos h2]
     cases hq : numF v.x 9 with
     | none => rfl
     | some q => exact absurd ⟨h2, by rw [hq]; rfl⟩ hno
    ·rw [if_neg h2]
   refine gO1 h1 ?_
   refine failP_a (l := l) (k := prK v) (a := v.o) (x := tB v.x) (d := d) (dp := deepF d dp u) (bad := -1) (List.getElem?_set_self hil) ?_
   rw [if_pos (by decide)]
   refine gO ?_
   exact Ret.same sMp hk
 ·rw [if_neg hsg] at hk1 hk2
  have hsg' : (sgT u [64]).isSome = false := by simpa using hsg
  have hk := hk1 _ _ _ rfl
  rw [set_same hi] at hk
  have hjg2 : H.set j (.row 233 5 [encNd (.tag x none)] true) = H := set_same hj
  rw [hjg2] at hk
  rw [hsg']
  refine gO ?_
  exact Ret.same lRf hk
end Go.Proofs.YtagoolooikpabaaGreatDoor
namespace Go.Proofs.YtagoolooikpabaaGreatDoor
open Go Go.RowKit
set_option maxRecDepth 100000
set_option maxHeartbeats 2000000
variable {H : Hp} {K : AV → Hp → Prop}
@[go_sem] def encFp (x : List AC) : List AC := [.fp x]
theorem appFp {i q ty : Nat} {own : Bool} {J : AV → Hp → Prop} (l : List (List AC)) (x : List AC) (l2 : List (List AC)) (e : l2 = l ++ [x]) (hi : H[i]? = some (grO 83 1 (l.map encFp))) (hj : H[q]? = some (.row ty 1 [[.fp x]] own)) (hb : l.length ≤ 1000000000)
  (h : J (.c (grV H.length l2)) (H.set i .dead ++ [grO 83 1 (l2.map encFp)])) : aBuiltin Tryz.prog .append #[231, 231] [.c (grV i l), .c (.sl (some (q, 0)) 1)] H J := by
 subst e
 exact app_grR (enc := encFp) (e := 83) (sz := 1) (bs := 8) (z := [.ptr none]) l [x] kRf kRf kRf kRf hi (by rw [hj]; rfl) sMp rfl (by decide) (by simp; omega) (by simp; omega) h
theorem encFp_pure (l : List (List AC)) : pureL (l.map encFp) = true := pureL_map _ pUr
structure ES where
 j : Nat
 acc : List (List AC)
 st : (List Ex × List Tok × Int) ⊕ JE
def eO (l : List UInt8) (d : Int) : (List Ex × List Tok × Int) ⊕ JE → AObj
 | .inl q => psO l q.2.1 d q.2.2
 | .inr q => psJ l q.k q.a q.s q.d q.dp q.e
theorem psO_row (l : List UInt8) (t : Tok) (T : List Tok) (d dp : Int) : psO l (t :: T) d dp = .row 216 7 [[.str (tB l), .int .i64 (prK t), .int .i64 t.o, .str (tB t.x), .int .i64 d, .int .i64 dp, .int .i64 (-1)]] true := rfl
theorem psJ_row (l : List UInt8) (k a : Int) (x : ByteArray) (d dp bad : Int) : psJ l k a x d dp bad = .row 216 7 [[.str (tB l), .int .i64 k, .int .i64 a, .str x, .int .i64 d, .int .i64 dp, .int .i64 bad]] true := rfl
theorem eO_l (l : List UInt8) (L : List Ex) (T : List Tok) (d dp : Int) : eO l d (.inl (L, T, dp)) = psO l T d dp := rfl
theorem eO_r (l : List UInt8) (e : Nat) (cs : List AC) (k a : Int) (s : ByteArray) (d d' dp' : Int) : eO l d (.inr ⟨e, cs, k, a, s, d', dp'⟩) = psJ l k a s d' dp' e := rfl
def eI (l : List UInt8) (rd : List Tok → Int → PR Ex) (d : Int) (many N : Nat) (res : PR (List Ex)) (s : ES) : Prop := s.j ≤ many ∧ s.acc.length ≤ s.j ∧ match s.st with
 | .inl q => argF rd d (many - s.j) q.1 q.2.1 q.2.2 = res ∧ Tl l q.2.1 ∧ q.2.1.length ≤ N ∧ q.1.length = s.j ∧ s.acc = q.1.map encNd
 | .inr q => res = .error q.e
theorem eO_ok {l : List UInt8} {d : Int} (s : (List Ex × List Tok × Int) ⊕ JE) (n : Nat) : (eO l d s).okN n := by
 cases s with
 | inl q => exact psO_ok n
 | inr q => exact psJ_ok n
theorem WkL.grew {A : Hp} {m j1 : Nat} {x : List (List AC)} {G : Hp} (r : Int) (hA : HOk A) (hm : m ≤ A.length) (k : Nat) (hk : j1 = A.length + k) (hG : G[k]? = some (grO 83 1 (x.map encFp))) : WkL m [(.c (.int .i64 r)), .c (grV j1 x)] (A ++ G) [(.c (.int .i64 r)), .c (grV A.length x)] (A ++ [grO 83 1 (x.map encFp)]) := by
 subst hk
 refine WkL.pick [k] hA hm (by simp [hG]) sMp ?_ ?_ ?_
 ·simp only [List.all_cons, List.all_nil, Bool.and_true]
  exact pureO_gr (encFp_pure x)
 ·simp only [List.map_cons, List.map_nil, av_ren_gr]
  simp [AV.ren, AV.ren1, AC.ren, pickS]
 ·intro z hz
  simp only [List.mem_cons, List.not_mem_nil, or_false] at hz
  rcases hz with rfl | rfl
  ·trivial
  ·exact grV_ok sMp _
theorem enclosedP_a {l : List UInt8} (hl : l.length ≤ 1000) {n : Nat} {d : Int} (hd : 0 ≤ d ∧ d ≤ 100000) {rd : List Tok → Int → PR Ex} (hrd : RdC 153 l n (d + 1) rd) (hg : RdG l rd) (many : Nat) (hmany : many ≤ 3) {i : Nat} {T : List Tok} {dp : Int} (hT : Tl l T) (hn : T.length ≤ n + 1) (hi : H[i]? = some (psO l T d dp))
  (hk1 : ∀ L T' dp', encF rd d many T dp = .ok (L, T', dp') → K (.c (.lst 1 (L.map fun x => [.fp (encNd x)]))) (H.set i (psO l T' d dp')))
  (hk2 : ∀ (e : Nat) (k a : Int) (s : ByteArray) (d' dp' : Int), encF rd d many T dp = .error e → K (.c (.lst 1 [])) (H.set i (psJ l k a s d' dp' e))) : ACalls Tryz.prog 295 [.c (.ptr (some (i, 0, 0))), (.c (.int .i64 many))] H K := by
 have hil := getElem?_lt hi
 obtain ⟨t, T1, rfl, ht, _⟩ := hT.head
 unfold encF at hk1 hk2
 dsimp only at hk1 hk2
 have hw1 : IntKind.i64.wrap (d + 1) = d + 1 := by rw [IntKind.wrap_i64]; omega
 have hw2 : IntKind.i64.wrap (d + 1 - 1) = d := by rw [IntKind.wrap_i64]; omega
 refine acalls Tryz.func295 rfl kRf gT (fun hH => ?_)
 refine gO ?_
 refine isT_a 40 _ rfl ht hi ?_
 by_cases hsg : (sgT t [40]).isSome = true
 ·rw [if_pos hsg] at hk1 hk2
  rw [hsg]
  have hk3 := sgT_is hsg
  have hT1 := (hT.next oMg).1
  obtain ⟨u, T2, hu, hut, _⟩ := hT1.head
  rw [List.length_cons] at hn
  refine gO ?_
  refine nextP_a hl hT oMg hi ?_
  obtain ⟨dp1, hdp1⟩ : ∃ dp1, dp1 = deepF d dp t := ⟨_, rfl⟩
  rw [← hdp1] at hk1 hk2 ⊢
  obtain ⟨res, hres⟩ : ∃ res, res = argF rd (d + 1) many [] T1 dp1 := ⟨_, rfl⟩
  rw [← hres] at hk1 hk2
  have hps : ∀ q : Int, psO l T1 q dp1 = .row 216 7 [[.str (tB l), .int .i64 (prK u), .int .i64 u.o, .str (tB u.x), .int .i64 q, .int .i64 dp1, .int .i64 (-1)]] true := fun q => by rw [hu]; rfl
  rw [hps d]
  refine gO1 hw1 ?_
  refine AWp.loop (H.length) [0, 21] [22, 5] (fun (s : ES) => eI l rd (d + 1) many T1.length res s) (fun (s : ES) => [(22, (.c (.int .i64 (s.j)))), (5, .c (grV H.length s.acc))]) (fun (s : ES) => H.set i (eO l (d + 1) s.st) ++ [grO 83 1 (s.acc.map encFp)]) (fun (s : ES) => many - s.j) kRf (fun _ => rfl) kRf sOo sOm kl ?_ (fun s q _ _ => ?_)
  ·refine Next.mk ⟨0, [], .inl ([], T1, dp1)⟩ ⟨Nat.zero_le _, Nat.le_refl _, hres.symm, hT1, Nat.le_refl _, rfl, rfl⟩ ?_
   dsimp only [eO]
   rw [hps (d + 1)]
   exact WkL.pad sMp
  have hat : ∀ (X : AObj) (G : Hp), (H.set i X ++ G)[i]? = some X := fun X G => by rw [List.getElem?_append_left (by simpa using hil), List.getElem?_set_self hil]
  have hset : ∀ (X Y : AObj) (G : Hp), (H.set i X ++ G).set i Y = H.set i Y ++ G := fun X Y G => by rw [List.set_append_left _ _ (by simpa using hil), List.set_set]
  have hokA : ∀ s : (List Ex × List Tok × Int) ⊕ JE, HOk (H.set i (eO l (d + 1) s)) := fun s => HOk.set hH (eO_ok s _)
  clear hu hut hps hres
  obtain ⟨j, acc, st⟩ := s
  obtain ⟨q0, q1, q2⟩ := q
  dsimp only at q0 q1 q2 ⊢
  by_cases hj : j < many
  ·have hj' : (j : Int) < (many : Int) := by omega
   have hend : ∀ (w : List AC) (st' : (List Ex × List Tok × Int) ⊕ JE) (G : Hp) (k : Nat), G[k]? = some (grO 83 1 ((acc ++ [w]).map encFp)) → WkL H.length [(.c (.int .i64 ((j : Int) + 1))), .c (.sl (some (H.length + k, 0)) (acc.length + 1))] (H.set i (eO l (d + 1) st') ++ G) [(.c (.int .i64 (((j + 1 : Nat) : Int)))), .c (.sl (some (H.length, 0)) (acc.length + 1))] (H.set i (eO l (d + 1) st') ++ [grO 83 1 ((acc ++ [w]).map encFp)]) := fun w st' G k hG => by
    have := WkL.grew (m := H.length) (j1 := H.length + k) (x := acc ++ [w]) (G := G) ((j : Int) + 1) (hokA st') sMp k sMp hG
    have hgv : ∀ p : Nat, (grV p (acc ++ [w]) : AC) = .sl (some (p, 0)) (acc.length + 1) := fun p => by rw [grV_pos _ sMp]; simp
    rw [List.length_set, hgv, hgv] at this
    rw [show (((j + 1 : Nat) : Int)) = (j : Int) + 1 by omega]
    exact this
   rcases st with ⟨L, T, dp⟩ | ⟨e, cs, k, a, s, d', dp'⟩
   ·obtain ⟨r1, r2, r3, r4, r5⟩ := q2
    dsimp only at r1 r2 r3 r4 r5
    obtain ⟨v, T3, rfl, hv, _⟩ := r2.head
    rw [show many - j = (many - j - 1) + 1 by omega] at r1
    unfold argF at r1
    rw [eO_l, psO_row]
    have hcmp : ∀ (G : Hp) (x : Ex) (T4 : List Tok) (dp4 : Int), (argF rd (d + 1) (many - j - 1) (L ++ [x]) T4 dp4 = res ∧ Tl l T4 ∧ T4.length ≤ T1.length) → eI l rd (d + 1) many T1.length res ⟨j + 1, acc ++ [encNd x], .inl (L ++ [x], T4, dp4)⟩ ∧ many - (j + 1) < many - j := fun G x T4 dp4 h =>
     ⟨⟨by dsimp only; omega, by simp; omega, by dsimp only; rw [show many - (j + 1) = many - j - 1 by omega]; exact h.1, h.2.1, h.2.2, by simp [r4], by rw [r5]; simp⟩, by omega⟩
    have hbad : ∀ (w : List AC) (e : Nat) (cs : List AC) (k a : Int) (s : ByteArray) (d' dp' : Int), res = .error e → eI l rd (d + 1) many T1.length res ⟨j + 1, acc ++ [w], .inr ⟨e, cs, k, a, s, d', dp'⟩⟩ ∧ many - (j + 1) < many - j := fun w e cs k a s d' dp' h =>
     ⟨⟨by dsimp only; omega, by simp; omega, h⟩, by omega⟩
    by_cases hj0 : j = 0
    ·have hL : L = [] := List.length_eq_zero_iff.1 oMg
     rw [if_pos hL] at r1
     dsimp only at r1
     have hj0' : ¬ (0 : Int) < (j : Int) := by omega
     refine gO2 hj' hj0' ?_
     refine hrd i _ _ (v :: T3) dp (hat _ _) r2 oMg (fun x T4 dp4 hx => ?_) (fun e k a s d' dp' cs hx => ?_)
     ·rw [hx] at r1
      dsimp only at r1
      obtain ⟨s1, s2, s3⟩ := hg _ _ _ _ _ r2 hx
      rw [hset]
      refine gO ?_
      refine appFp acc (encNd x) _ rfl aTT aTT oMg ?_
      refine gO ?_
      refine Next.mk ⟨j + 1, acc ++ [encNd x], .inl (L ++ [x], T4, dp4)⟩ (hcmp [] x T4 dp4 ⟨r1, s2, by omega⟩) ?_
      refine gO ?_
      refine hend (encNd x) (.inl (L ++ [x], T4, dp4)) _ 2 ?_
      rfl
     ·rw [hx] at r1
      dsimp only at r1
      rw [hset]
      refine gO ?_
      refine appFp acc cs _ rfl aTT aTT oMg ?_
      refine gO ?_
      refine Next.mk ⟨j + 1, acc ++ [cs], .inr ⟨e, [], k, a, s, d', dp'⟩⟩ (hbad cs e [] k a s d' dp' r1.symm) ?_
      refine gO ?_
      refine hend cs (.inr ⟨e, [], k, a, s, d', dp'⟩) _ 2 ?_
      rfl
    ·have hL : ¬ L = [] := fun h => by rw [h] at r4; exact hj0 r4.symm
     rw [if_neg hL] at r1
     dsimp only at r1
     have hj0' : (0 : Int) < (j : Int) := by omega
     by_cases hc : (sgT v [44]).isSome = true
     ·have hk3v := sgT_is hc
      have hT3 := (r2.next oMg).1
      obtain ⟨w, T5, rfl, hw, _⟩ := hT3.head
      rw [if_pos hc] at r1
      dsimp only at r1
      rw [List.length_cons] at r3
      refine gO2 hj' hj0' ?_
      refine takeP_ok 44 _ rfl hl r2 hc (hat _ _) ?_
      rw [hset, psO_row]
      refine gO ?_
      refine hrd i _ _ (w :: T5) (deepF (d + 1) dp v) (hat _ _) hT3 oMg (fun x T4 dp4 hx => ?_) (fun e k a s d' dp' cs hx => ?_)
      ·rw [hx] at r1
       dsimp only at r1
       obtain ⟨s1, s2, s3⟩ := hg _ _ _ _ _ hT3 hx
       rw [hset]
       refine gO ?_
       refine appFp acc (encNd x) _ rfl aTT aTT oMg ?_
       refine gO ?_
       refine Next.mk ⟨j + 1, acc ++ [encNd x], .inl (L ++ [x], T4, dp4)⟩ (hcmp [] x T4 dp4 ⟨r1, s2, by omega⟩) ?_
       refine gO ?_
       refine hend (encNd x) (.inl (L ++ [x], T4, dp4)) _ 2 ?_
       rfl
      ·rw [hx] at r1
       dsimp only at r1
       rw [hset]
       refine gO ?_
       refine appFp acc cs _ rfl aTT aTT oMg ?_
       refine gO ?_
       refine Next.mk ⟨j + 1, acc ++ [cs], .inr ⟨e, [], k, a, s, d', dp'⟩⟩ (hbad cs e [] k a s d' dp' r1.symm) ?_
       refine gO ?_
       refine hend cs (.inr ⟨e, [], k, a, s, d', dp'⟩) _ 2 ?_
       rfl
     ·have hc' : (sgT v [44]).isSome = false := by simpa using hc
      rw [if_neg hc] at r1
      dsimp only at r1
      refine gO2 hj' hj0' ?_
      refine takeP_no (T := T3) 44 _ rfl hv hc' (hat _ _) ?_
      rw [hset, psJ_row]
      refine gO ?_
      refine Next.mk ⟨j + 1, acc, .inr ⟨v.o, [], prK v, v.o, tB v.x, d + 1, dp⟩⟩ ⟨⟨by dsimp only; omega, by dsimp only; omega, r1.symm⟩, by dsimp only; omega⟩ ?_
      refine gO ?_
      rw [show (j : Int) + 1 = ((j + 1 : Nat) : Int) by omega]
      exact WkL.refl sMp
   ·rw [eO_r, psJ_row]
    by_cases hj0 : j = 0
    ·have hj0' : ¬ (0 : Int) < (j : Int) := by omega
     refine gO2 hj' hj0' ?_
     refine Next.mk ⟨j + 1, acc, .inr ⟨e, [], k, a, s, d', dp'⟩⟩ ⟨⟨by dsimp only; omega, by dsimp only; omega, q2⟩, by dsimp only; omega⟩ ?_
     refine gO ?_
     rw [show (j : Int) + 1 = ((j + 1 : Nat) : Int) by omega]
     exact WkL.refl sMp
    ·have hj0' : (0 : Int) < (j : Int) := by omega
     refine gO2 hj' hj0' ?_
     refine takeP_bad (e := e) _ (hat _ _) ?_
     refine gO ?_
     refine Next.mk ⟨j + 1, acc, .inr ⟨e, [], k, a, s, d', dp'⟩⟩ ⟨⟨by dsimp only; omega, by dsimp only; omega, q2⟩, by dsimp only; omega⟩ ?_
     refine gO ?_
     rw [show (j : Int) + 1 = ((j + 1 : Nat) : Int) by omega]
     exact WkL.refl sMp
  ·have hj' : ¬ (j : Int) < (many : Int) := by omega
   rcases st with ⟨L, T, dp⟩ | ⟨e, cs, k, a, s, d', dp'⟩
   ·obtain ⟨r1, r2, r3, r4, r5⟩ := q2
    dsimp only at r1 r2 r3 r4 r5
    obtain ⟨v, T3, rfl, hv, _⟩ := r2.head
    rw [show many - j = 0 by omega] at r1
    unfold argF at r1
    rw [← r1] at hk1 hk2
    dsimp only at hk1 hk2
    rw [eO_l, psO_row]
    refine gO1 hj' ?_
    refine isT_a (T := T3) 41 _ rfl hv (hat _ _) ?_
    by_cases hc : (sgT v [41]).isSome = true
    ·rw [if_pos hc] at hk1
     have hk := hk1 _ _ _ rfl
     have hk3v := sgT_is hc
     have hT3 := (r2.next oMg).1
     obtain ⟨w, T5, rfl, hw, _⟩ := hT3.head
     rw [hc]
     refine gO ?_
     refine nextP_a hl r2 oMg (hat _ _) ?_
     rw [hset, psO_row]
     refine gO1 hw2 ?_
     have hA : HOk (H.set i (psO l (w :: T5) d (deepF (d + 1) dp v))) := HOk.set hH (psO_ok _)
     exact Ret.frzGr (l := acc.map encFp) 0 hA sMp rfl (encFp_pure acc) (by simp [map_grV]) (by rw [r5, List.map_map]; exact hk)
    ·rw [if_neg hc] at hk2
     have hc' : (sgT v [41]).isSome = false := by simpa using hc
     have hk := hk2 v.o (prK v) v.o (tB v.x) (d + 1) dp rfl
     rw [hc']
     refine gO ?_
     refine failP_a (l := l) (k := prK v) (a := v.o) (x := tB v.x) (d := d + 1) (dp := dp) (bad := -1) (hat _ _) ?_
     rw [if_pos (by decide), hset]
     refine gO ?_
     exact Ret.nil [1] sMp (Ret.drop (HOk.psJ hH) sMp trivial hk)
   ·have hq : res = .error e := q2
    rw [hq] at hk2
    have hk := hk2 e k a s d' dp' rfl
    rw [eO_r, psJ_row]
    refine gO1 hj' ?_
    refine failP_a (l := l) (k := k) (a := a) (x := s) (d := d') (dp := dp') (bad := e) (hat _ _) ?_
    rw [if_neg oMg, hset]
    refine gO ?_
    exact Ret.nil [1] sMp (Ret.drop (HOk.psJ hH) sMp trivial hk)
 ·rw [if_neg hsg] at hk2
  have hsg' : (sgT t [40]).isSome = false := by simpa using hsg
  have hk := hk2 t.o (prK t) t.o (tB t.x) d dp rfl
  rw [hsg']
  refine gO ?_
  refine failP_a (l := l) (k := prK t) (a := t.o) (x := tB t.x) (d := d) (dp := dp) (bad := -1) (by rw [psO_cons] at hi; exact hi) ?_
  rw [if_pos (by decide)]
  refine gO ?_
  exact Ret.nil [1] sMp (Ret.same sMp hk)
end Go.Proofs.YtagoolooikpabaaGreatDoor
namespace Go.Proofs.YtagoolooikpabaaGreatDoor
open Go Go.RowKit
set_option maxRecDepth 100000
set_option maxHeartbeats 2000000
variable {H : Hp} {K : AV → Hp → Prop}
theorem tB_c {x y : List UInt8} {s : ByteArray} (h : s = tB y) : tB x = s ↔ x = y := by rw [h, tB_inj]
theorem operands_a (x : List UInt8) (hk : K (.c (.int .i64 (fnN x))) H) : ACalls Tryz.prog 118 [(.c (.str (tB x)))] H K := by
 have e1 : tB x = ⟨#[97, 98, 115]⟩ ↔ x = wAbs := tB_c rfl
 have e2 : tB x = ⟨#[103, 111, 111, 100]⟩ ↔ x = wGd := tB_c rfl
 have e3 : tB x = ⟨#[109, 105, 110]⟩ ↔ x = wMin := tB_c rfl
 have e4 : tB x = ⟨#[109, 97, 120]⟩ ↔ x = wMax := tB_c rfl
 have e5 : tB x = ⟨#[105, 102]⟩ ↔ x = wIf := tB_c rfl
 have key : ∀ (p : Bool) (q : Prop) [Decidable q], (decide q = p) → ∀ (L : ByteArray), (tB x = L ↔ q) → decide (tB x = L) = p := fun p q _ h L hq => by rw [← h]; congr 1; rw [eq_iff_iff]; exact hq
 unfold fnN at hk
 by_cases h1 : x = wAbs
 ·rw [if_pos (.inl h1)] at hk
  have c1 := key true _ (decide_eq_true h1) _ e1
  refine acalls Tryz.func118 rfl kRf gT (fun hH => ?_)
  refine gO1 c1 ?_
  exact Ret.same lRf hk
 have c1 := key false _ (decide_eq_false h1) _ e1
 by_cases h2 : x = wGd
 ·rw [if_pos (.inr h2)] at hk
  have c2 := key true _ (decide_eq_true h2) _ e2
  refine acalls Tryz.func118 rfl kRf gT (fun hH => ?_)
  refine gO2 c1 c2 ?_
  exact Ret.same lRf hk
 have c2 := key false _ (decide_eq_false h2) _ e2
 rw [if_neg (fun h => h.elim h1 h2)] at hk
 by_cases h3 : x = wMin
 ·rw [if_pos (.inl h3)] at hk
  have c3 := key true _ (decide_eq_true h3) _ e3
  refine acalls Tryz.func118 rfl kRf gT (fun hH => ?_)
  refine gO3 c1 c2 c3 ?_
  exact Ret.same lRf hk
 have c3 := key false _ (decide_eq_false h3) _ e3
 by_cases h4 : x = wMax
 ·rw [if_pos (.inr h4)] at hk
  have c4 := key true _ (decide_eq_true h4) _ e4
  refine acalls Tryz.func118 rfl kRf gT (fun hH => ?_)
  refine gO4 c1 c2 c3 c4 ?_
  exact Ret.same lRf hk
 have c4 := key false _ (decide_eq_false h4) _ e4
 rw [if_neg (fun h => h.elim h3 h4)] at hk
 by_cases h5 : x = wIf
 ·rw [if_pos h5] at hk
  have c5 := key true _ (decide_eq_true h5) _ e5
  refine acalls Tryz.func118 rfl kRf gT (fun hH => ?_)
  simp (disch := first | omega | (simp only [go_sem]; try omega)) only [go_sem, c1, c2, c3, c4, c5]
  exact Ret.same lRf hk
 have c5 := key false _ (decide_eq_false h5) _ e5
 rw [if_neg h5] at hk
 refine acalls Tryz.func118 rfl kRf gT (fun hH => ?_)
 simp (disch := first | omega | (simp only [go_sem]; try omega)) only [go_sem, c1, c2, c3, c4, c5]
 exact Ret.same lRf hk
theorem product_a {l : List UInt8} (hl : l.length ≤ 1000) {n : Nat} {d : Int} {fc : Int → List Tok → Int → PR Ex} (hrd : RdC 275 l n d (fc d)) (hg : RdG l (fc d)) : RdC 247 l n d (prodG fc d) := by
 intro i H K T dp hi hT hn hk1 hk2
 refine acalls Tryz.func247 rfl kRf gT (fun hH => ?_)
 refine gO ?_
 refine joined_a hl kRf hrd hg [42, 47] true i T dp hi hT hn (fun x T' dp' h => ?_) (fun e k a s d' dp' cs h => ?_)
 ·have := hk1 x T' dp' h
  refine gO ?_
  exact Ret.same sMp this
 ·have := hk2 e k a s d' dp' cs h
  refine gO ?_
  exact Ret.same sMp this
theorem sum_a {l : List UInt8} (hl : l.length ≤ 1000) {n : Nat} {d : Int} {fc : Int → List Tok → Int → PR Ex} (hrd : RdC 275 l n d (fc d)) (hg : RdG l (fc d)) : RdC 194 l n d (sumG fc d) := by
 intro i H K T dp hi hT hn hk1 hk2
 refine acalls Tryz.func194 rfl kRf gT (fun hH => ?_)
 refine gO ?_
 refine joined_a hl kRf (product_a hl hrd hg) (prod_good d hg) [43, 45] true i T dp hi hT hn (fun x T' dp' h => ?_) (fun e k a s d' dp' cs h => ?_)
 ·have := hk1 x T' dp' h
  refine gO ?_
  exact Ret.same sMp this
 ·have := hk2 e k a s d' dp' cs h
  refine gO ?_
  exact Ret.same sMp this
theorem compareP_a {l : List UInt8} (hl : l.length ≤ 1000) {n : Nat} {d : Int} {fc : Int → List Tok → Int → PR Ex} (hrd : RdC 275 l n d (fc d)) (hg : RdG l (fc d)) : RdC 153 l n d (compG fc d) := by
 intro i H K T dp hi hT hn hk1 hk2
 refine acalls Tryz.func153 rfl kRf gT (fun hH => ?_)
 refine gO ?_
 refine joined_a hl kRf (sum_a hl hrd hg) (sum_good d hg) [60, 61] false i T dp hi hT hn (fun x T' dp' h => ?_) (fun e k a s d' dp' cs h => ?_)
 ·have := hk1 x T' dp' h
  refine gO ?_
  exact Ret.same sMp this
 ·have := hk2 e k a s d' dp' cs h
  refine gO ?_
  exact Ret.same sMp this
theorem encNd_fn (f : List UInt8) {L : List Ex} (h : L.length = 1 ∨ L.length = 2 ∨ L.length = 3) : encNd (mkFn f L) = [.str (tB f), .int .i64 0, .str ⟨#[]⟩, .lst 1 (L.map fun x => [.fp (encNd x)]), .bool false] := by
 match L, h with
 | [a], _ => simp [mkFn, encNd]
 | [a, b], _ => simp [mkFn, encNd]
 | [a, b, c], _ => simp [mkFn, encNd]
 | [], h => simp at h
 | _ :: _ :: _ :: _ :: _, h => simp at h
theorem fnN_3 (x : List UInt8) : fnN x ≤ 3 := by
 unfold fnN
 repeat' split
 all_goals omega
theorem Ret.nd2 {A : Hp} {n : Nat} {ty : Nat} {cs : List AC} {own : Bool} {o : AObj} (hA : HOk A) (hn : n = A.length) (hp : pureL [cs] = true) (hk : K (.c (.fp cs)) A) : Ret n (.c (.ptr (some (n + 1, 0, 0)))) (A ++ [o, .row ty 5 [cs] own]) K := by
 subst hn
 exact Ret.node1 (v' := .c (.fp cs)) (els := [cs]) 1 hA lRf rfl hp (by simp [AV.frzX, AV.frzX1, AC.frzX]) trivial hk
theorem encNd_pure (e : Ex) : pureL [encNd e] = true := by
 cases e with
 | tag x s => cases s <;> rfl
 | _ => rfl
theorem factor_a {l : List UInt8} (hl : l.length ≤ 1000) : ∀ (n : Nat) (d : Int), 0 ≤ d → d + n ≤ 5000 → RdC 275 l n d (factF n d)
 | 0, d, _, _ => by
  intro i H K T dp hi hT hn hk1 hk2
  obtain ⟨t, T1, rfl, _⟩ := hT.head
  rw [List.length_cons] at hn
  omega
 | n + 1, d, hd0, hd1 => by
  intro i H K T dp hi hT hn hk1 hk2
  have ih := factor_a hl n
  have hil := getElem?_lt hi
  obtain ⟨t, T1, rfl, ht, _⟩ := hT.head
  rw [List.length_cons] at hn
  have hkind := prK_k ht
  unfold factF at hk1 hk2
  have hset : ∀ (X : AObj) (G : Hp), (H ++ G).set i X = H.set i X ++ G := fun X G => by rw [List.set_append_left _ _ hil]
  have hat : ∀ G : Hp, (H ++ G)[i]? = some (psO l (t :: T1) d dp) := fun G => by rw [List.getElem?_append_left hil]; exact hi
  have hset3 : ∀ (X Y : AObj) (G : Hp), (H.set i X ++ G).set i Y = H.set i Y ++ G := fun X Y G => by rw [List.set_append_left _ _ (by simpa using hil), List.set_set]
  have hset2 : ∀ (X C : AObj) (G : Hp), (H.set i X ++ G).set (H.length + 1) C = H.set i X ++ G.set 1 C := fun X C G => by rw [List.set_append_right _ _ sMp]; simp
  have hat3 : ∀ (X : AObj) (G : Hp), (H.set i X ++ G)[i]? = some X := fun X G => by rw [List.getElem?_append_left (by simpa using hil), List.getElem?_set_self hil]
  have hi' := hi
  rw [psO_row] at hi'
  refine acalls Tryz.func275 rfl kRf gT (fun hH => ?_)
  refine gO1 hi' ?_
  refine isT_a (T := T1) 45 _ rfl ht (hat _) ?_
  by_cases h1 : (sgT t [45]).isSome = true
  ·rw [if_pos h1] at hk1 hk2
   rw [h1]
   have hk3 := sgT_is h1
   refine gO ?_
   refine minusP_a hl (n := n) ⟨by omega, by omega⟩ (ih (d + 1) oMg oMg) hT oMg hk3 (hat _) (fun x T' dp' h => ?_) (fun e k a s d' dp' cs h => ?_)
   ·rw [h] at hk1
    have hk := hk1 _ _ _ rfl
    rw [hset]
    refine gO ?_
    exact Ret.drop (HOk.set hH (psO_ok _)) sMp trivial hk
   ·rw [h] at hk2
    have hk := hk2 _ k a s d' dp' cs rfl
    rw [hset]
    refine gO ?_
    exact Ret.drop (HOk.psJ hH) sMp trivial hk
  ·rw [if_neg h1] at hk1 hk2
   have h1' : (sgT t [45]).isSome = false := by simpa using h1
   rw [h1']
   by_cases h2 : t.k = 1
   ·rw [if_pos h2] at hk1 hk2
    cases hq : numF t.x 9 with
    | some v =>
     rw [hq] at hk1
     have hk := hk1 _ _ _ rfl
     have hp1 : prK t = 1 := hkind.1.2 ⟨h2, by rw [hq]; rfl⟩
     have hxl : t.x.length ≤ 1000 := by have := ht.1; omega
     refine gO1 hp1 ?_
     refine atoiTok_a t.x hxl (fun w e hw he => ?_)
     obtain rfl := hw v hq
     refine gO ?_
     refine nextP_a hl hT oMg (hat _) ?_
     rw [hset]
     refine gO ?_
     exact Ret.nd2 (HOk.set hH (psO_ok _)) sMp rfl hk
    | none =>
     rw [hq] at hk2
     have hp1 : prK t = 4 := by
      rcases ht.2.2 with h | h | h | h | h
      ·omega
      ·rw [prK_1 h.1 h.2.2 h.2.1, hq]; rfl
      ·omega
      ·omega
      ·omega
     have hk := hk2 t.o (prK t) t.o (tB t.x) d dp ndE0 rfl
     rw [hp1] at hk
     have h40 : (sgT t [40]).isSome = false := by
      cases hc : (sgT t [40]).isSome with
      | false => rfl
      | true => have := sgT_is hc; omega
     refine gO1 hp1 ?_
     refine isT_a (T := T1) 40 _ rfl ht (by rw [← hp1]; exact hat _) ?_
     rw [h40]
     refine gO1 hp1 ?_
     refine failP_a (l := l) (k := 4) (a := t.o) (x := tB t.x) (d := d) (dp := dp) (bad := -1) (by rw [← hp1]; exact hat _) ?_
     rw [if_pos (by decide), hset]
     refine gO ?_
     exact Ret.drop (HOk.psJ hH) sMp trivial hk
   ·rw [if_neg h2] at hk1 hk2
    have hp1 : ¬ prK t = 1 := fun h => h2 (hkind.1.1 h).1
    refine gO1 hp1 ?_
    refine isT_a (T := T1) 40 _ rfl ht (hat _) ?_
    by_cases h3 : (sgT t [40]).isSome = true
    ·rw [if_pos h3] at hk1 hk2
     rw [h3]
     refine gO ?_
     refine enclosedP_a hl (n := n) (d := d) ⟨by omega, by omega⟩ (compareP_a hl (ih (d + 1) oMg oMg) (fact_good l n (d + 1))) (comp_good (d + 1) (fact_good l n (d + 1))) 1 oMg hT (by rw [List.length_cons]; omega) (hat _) (fun L T' dp' h => ?_) (fun e k a s d' dp' h => ?_)
     ·rw [h] at hk1
      have hk := hk1 _ _ _ rfl
      obtain ⟨g1, g2, g3, g4⟩ := enc_good (comp_good (d + 1) (fact_good l n (d + 1))) d 1 _ _ _ _ _ hT h
      obtain ⟨x, rfl⟩ : ∃ x, L = [x] := by
       match L, g2 with
       | [x], _ => exact ⟨x, rfl⟩
      rw [hset]
      refine gO ?_
      exact Ret.drop (HOk.set hH (psO_ok _)) sMp trivial hk
     ·rw [h] at hk2
      have hk := hk2 e k a s d' dp' ndE0 rfl
      rw [hset]
      refine gO ?_
      exact Ret.nd2 (HOk.psJ hH) sMp rfl hk
    ·rw [if_neg h3] at hk1 hk2
     have h3' : (sgT t [40]).isSome = false := by simpa using h3
     rw [h3']
     by_cases h4 : t.k = 2
     ·rw [if_pos h4] at hk1 hk2
      have hT1 := (hT.next oMg).1
      by_cases h5 : 0 < fnN t.x
      ·rw [if_pos h5] at hk1 hk2
       have hfn := fnN_3 t.x
       have hp2 : prK t = 2 := by
        refine hkind.2.1.2 ⟨h4, ?_⟩
        have : t.x = wAbs ∨ t.x = wGd ∨ t.x = wMin ∨ t.x = wMax ∨ t.x = wIf := by
         unfold fnN at h5
         split at h5
         ·rename_i h; rcases h with h | h <;> simp [h]
         ·split at h5
          ·rename_i h; rcases h with h | h <;> simp [h]
          ·split at h5
           ·rename_i h; simp [h]
           ·omega
        rcases this with h | h | h | h | h <;> rw [h] <;> decide
       have h5' : (0 : Int) < (fnN t.x : Int) := by omega
       refine gO1 hp2 ?_
       refine operands_a t.x ?_
       refine gO1 h5' ?_
       refine nextP_a hl hT oMg (by rw [← hp2]; exact hat _) ?_
       rw [hset]
       refine gO ?_
       refine w_tree (.one 0 (.one 2 (.one 3 (.one 4 (.two 1 (.one 5 (.one 6 (.one 7 (.one 8 (.one 9 .done))))) 5 (.two 1 (.one 6 (.one 7 (.one 8 (.one 9 .done)))) 6 (.one 1 (.one 7 (.one 8 (.one 9 .done)))))))))) kRf dKn ?_
       refine gO ?_
       repeat' apply And.intro
       all_goals refine operands_a t.x ?_
       all_goals refine gO ?_
       all_goals repeat' apply And.intro
       all_goals
        refine enclosedP_a hl (n := n) (d := d) ⟨by omega, by omega⟩ (compareP_a hl (ih (d + 1) oMg oMg) (fact_good l n (d + 1))) (comp_good (d + 1) (fact_good l n (d + 1))) (fnN t.x) hfn hT1 oMg (hat3 _ _) (fun L T' dp' h => ?_) (fun e k a s d' dp' h => ?_)
        ·rw [h] at hk1
         have hk := hk1 _ _ _ rfl
         obtain ⟨g1, g2, g3, g4⟩ := enc_good (comp_good (d + 1) (fact_good l n (d + 1))) d _ _ _ _ _ _ hT1 h
         rw [encNd_fn t.x oMg] at hk
         rw [hset3]
         refine gO ?_
         exact Ret.nd2 (HOk.set hH (psO_ok _)) sMp rfl hk
        ·rw [h] at hk2
         have hk := hk2 e k a s d' dp' [.str (tB t.x), .int .i64 0, .str ⟨#[]⟩, .lst 1 [], .bool false] rfl
         rw [hset3]
         refine gO ?_
         exact Ret.nd2 (HOk.psJ hH) sMp rfl hk
      ·have h5' : ¬ (0 : Int) < (fnN t.x : Int) := by omega
       rw [if_neg h5] at hk1 hk2
       by_cases h6 : 40 < t.x.length
       ·rw [if_pos h6] at hk2
        have hp2 : prK t = 4 := by unfold prK; rw [if_neg h2, if_pos h4, if_pos h6]
        have hk := hk2 t.o (prK t) t.o (tB t.x) d dp ndE0 rfl
        rw [hp2] at hk
        refine gO1 hp2 ?_
        refine failP_a (l := l) (k := 4) (a := t.o) (x := tB t.x) (d := d) (dp := dp) (bad := -1) (by rw [← hp2]; exact hat _) ?_
        rw [if_pos (by decide), hset]
        refine gO ?_
        exact Ret.drop (HOk.psJ hH) sMp trivial hk
       ·rw [if_neg h6] at hk1 hk2
        have hp2 : prK t = 2 := hkind.2.1.2 ⟨h4, by omega⟩
        refine gO1 hp2 ?_
        refine operands_a t.x ?_
        refine gO1 h5' ?_
        refine nextP_a hl hT oMg (by rw [← hp2]; exact hat _) ?_
        rw [hset]
        refine gO ?_
        refine shiftedP_a hl (d := d) (dp := deepF d dp t) t.x (i := i) (j := H.length + 1) oMg hT1 (by rw [List.getElem?_append_left (by simpa using hil), List.getElem?_set_self hil]) aTT (fun y T' dp' h => ?_) (fun e k a s d' dp' cs h => ?_)
        ·have hk := hk1 _ _ _ h
         rw [hset3, hset2]
         refine gO ?_
         exact Ret.nd2 (HOk.set hH (psO_ok _)) sMp (encNd_pure y) hk
        ·have hk := hk2 e k a s d' dp' cs h
         rw [hset3]
         refine gO ?_
         exact Ret.drop (HOk.psJ hH) sMp trivial hk
     ·rw [if_neg h4] at hk2
      have hp2 : ¬ prK t = 2 := fun h => h4 (hkind.2.1.1 h).1
      have hk := hk2 t.o (prK t) t.o (tB t.x) d dp ndE0 rfl
      refine gO1 hp2 ?_
      refine failP_a (l := l) (k := prK t) (a := t.o) (x := tB t.x) (d := d) (dp := dp) (bad := -1) (hat _) ?_
      rw [if_pos (by decide), hset]
      refine gO ?_
      exact Ret.drop (HOk.psJ hH) sMp trivial hk
end Go.Proofs.YtagoolooikpabaaGreatDoor
namespace Go.Proofs.YtagoolooikpabaaGreatDoor
open Go Go.RowKit
set_option maxRecDepth 100000
set_option maxHeartbeats 2000000
variable {H : Hp} {K : AV → Hp → Prop}
theorem parse_a (l : List UInt8) (hl : l.length ≤ 1000000) (hk1 : ∀ e, parF l = .ok e → K (.tup [.c (.fp (encNd e)), (.c (.int .i64 0)), (.c (.int .i64 0))]) H) (hk2 : ∀ a c, parF l = .error (a, c) → K (.tup [.c (.ptr none), (.c (.int .i64 a)), (.c (.int .i64 c))]) H) : ACalls Tryz.prog 93 [(.c (.str (tB l)))] H K := by
 have hsz := tB_size l
 unfold parF at hk1 hk2
 by_cases h5 : 500 < l.length
 ·rw [if_pos h5] at hk2
  have hk := hk2 0 2 rfl
  refine acalls Tryz.func93 rfl kRf gT (fun hH => ?_)
  refine gO2 hsz h5 ?_
  exact Ret.same lRf hk
 rw [if_neg h5] at hk1 hk2
 obtain ⟨n, hn⟩ : ∃ n, n = (tokF l 0).length := ⟨_, rfl⟩
 have hnl := (tokF_len l 0).2
 rw [← hn] at hk1 hk2 hnl
 have hT := Tl.top l
 have hat : ∀ X : AObj, (H ++ [X])[H.length]? = some X := fun X => by simp
 have hset : ∀ X Y : AObj, (H ++ [X]).set H.length Y = H ++ [Y] := fun X Y => by simp
 have hfac := compareP_a (d := 0) oMg (factor_a (l := l) oMg n 0 oMg oMg) (fact_good l n 0)
 have hcg := comp_good 0 (fact_good l n 0)
 refine acalls Tryz.func93 rfl kRf gT (fun hH => ?_)
 refine gO2 hsz h5 ?_
 repeat' (first | ((first | refine acond_d ?_ ?_ | refine acond_b ?_ ?_ | refine ag_d ?_ ?_ | refine ag_n ?_ ?_ | refine ag_bt ?_ ?_ | refine ag_bf ?_ ?_) <;> intro c <;> try refine gO1 c ?_) | ((first | refine w_draw kRf dKn ?_ | refine scan_a l 0 oMg oMg (fun u T1 hu => ?_)) <;> try refine gO ?_))
 rw [List.drop_zero] at hu
 have e0 : AObj.row 216 7 [[.str (tB l), .int .i64 (prK u), .int .i64 u.o, .str (tB u.x), .int .i64 0, .int .i64 (-1), .int .i64 (-1)]] true = psO l (tokF l 0) 0 (-1) := by rw [hu]; rfl
 rw [e0]
 refine hfac H.length _ _ (tokF l 0) (-1) (hat _) hT oMg (fun x T' dp' h => ?_) (fun e k a s d' dp' cs h => ?_)
 ·rw [h] at hk1 hk2
  obtain ⟨g1, g2, g3⟩ := hcg _ _ _ _ _ hT h
  obtain ⟨t, T2, rfl, ht, _⟩ := g2.head
  dsimp only at hk1 hk2
  rw [hset, psO_row]
  have hkd := (prK_k ht).2.2.2
  by_cases h0 : t.k = 0
  ·have hp : prK t = 0 := hkd.2 h0
   rw [if_neg (by simpa using h0)] at hk1 hk2
   by_cases hdp : 0 ≤ dp'
   ·rw [if_pos hdp] at hk2
    have hk := hk2 _ _ rfl
    refine gO2 hp hdp ?_
    refine w_draw kRf dKn ?_
    refine gO ?_
    exact Ret.drop hH lRf oKs hk
   ·rw [if_neg hdp] at hk1
    have hk := hk1 _ rfl
    refine gO2 hp hdp ?_
    exact Ret.drop hH lRf oKs hk
  ·have hp : ¬ prK t = 0 := fun h => h0 (hkd.1 h)
   rw [if_pos (by simpa using h0)] at hk2
   have hk := hk2 _ _ rfl
   refine gO1 hp ?_
   refine failP_a (l := l) (k := prK t) (a := t.o) (x := tB t.x) (d := 0) (dp := dp') (bad := -1) (hat _) ?_
   rw [if_pos (by decide), hset]
   unfold psJ
   have hto : (0 : Int) ≤ (t.o : Int) := by omega
   refine gO1 hto ?_
   refine w_draw kRf dKn ?_
   refine gO ?_
   exact Ret.drop hH lRf oKs hk
 ·rw [h] at hk2
  have hk := hk2 _ _ rfl
  rw [hset, psJ_row]
  refine gO ?_
  refine w_draw kRf dKn ?_
  refine gO ?_
  exact Ret.drop hH lRf oKs hk
def chkF (l : List UInt8) : Int × Int := match parF l with
 | .ok _ => (0, 0)
 | .error p => p
theorem check_a (l : List UInt8) (hl : l.length ≤ 1000000) (hk : K (.tup [(.c (.int .i64 ((chkF l).1))), (.c (.int .i64 ((chkF l).2)))]) H) : ACalls Tryz.prog 70 [(.c (.str (tB l)))] H K := by
 unfold chkF at hk
 refine acalls Tryz.func70 rfl kRf gT (fun hH => ?_)
 refine gO ?_
 refine parse_a l hl (fun e h => ?_) (fun a c h => ?_)
 ·rw [h] at hk
  refine gO ?_
  exact Ret.same lRf hk
 ·rw [h] at hk
  refine gO ?_
  exact Ret.same lRf hk
end Go.Proofs.YtagoolooikpabaaGreatDoor
