/- Several texts in one: The program's parser: its small steps, and what follows. No condition. -/
import Derived.Test.YtagoolooikpabaaGreatDoorHVScan
import Derived.Test.YtagoolooikpabaaGreatDoorHCoreFrz
set_option linter.all false
namespace Go.Proofs.YtagoolooikpabaaGreatDoor
open Go Go.RowKit
set_option maxRecDepth 100000
set_option maxHeartbeats 2000000
variable {H : Hp} {K : AV → Hp → Prop}
def psJ (l : List UInt8) (k a : Int) (x : ByteArray) (d dp bad : Int) : AObj := .row 216 7 [[.str (tB l), .int .i64 k, .int .i64 a, .str x, .int .i64 d, .int .i64 dp, .int .i64 bad]] true
def psO (l : List UInt8) (T : List Tok) (d dp : Int) : AObj := psJ l (prK (T.headD ⟨0, [], 0⟩)) (T.headD ⟨0, [], 0⟩).o (tB (T.headD ⟨0, [], 0⟩).x) d dp (-1)
attribute [go_sem] prT
def ndE0 : List AC := [.str ⟨#[]⟩, .int .i64 0, .str ⟨#[]⟩, .sl none 0, .bool false]
theorem isP_a {i : Nat} {l : List UInt8} {k a d dp bad : Int} {x : ByteArray} (s : ByteArray) (hi : H[i]? = some (psJ l k a x d dp bad)) (hk : K (.c (.bool (decide (k = 3 ∧ x = s)))) H) : ACalls Tryz.prog 292 [.c (.ptr (some (i, 0, 0))), (.c (.str s))] H K := by
 unfold psJ at hi
 by_cases h1 : k = 3
 ·by_cases h2 : x = s
  ·rw [decide_eq_true ⟨h1, h2⟩] at hk
   refine acalls Tryz.func292 rfl (by kernel_rfl) (by simp (disch := first | omega | (simp only [go_sem]; try omega)) only [go_sem]) (fun hH => ?_)
   simp (disch := first | omega | (simp only [go_sem]; try omega)) only [go_sem, hi, h1, h2]
   exact Ret.same (Nat.le_refl _) hk
  ·rw [decide_eq_false (fun h => h2 h.2)] at hk
   refine acalls Tryz.func292 rfl (by kernel_rfl) (by simp (disch := first | omega | (simp only [go_sem]; try omega)) only [go_sem]) (fun hH => ?_)
   simp (disch := first | omega | (simp only [go_sem]; try omega)) only [go_sem, hi, h1, h2]
   exact Ret.same (Nat.le_refl _) hk
 ·rw [decide_eq_false (fun h => h1 h.1)] at hk
  refine acalls Tryz.func292 rfl (by kernel_rfl) (by simp (disch := first | omega | (simp only [go_sem]; try omega)) only [go_sem]) (fun hH => ?_)
  simp (disch := first | omega | (simp only [go_sem]; try omega)) only [go_sem, hi, h1]
  exact Ret.same (Nat.le_refl _) hk
theorem psJ_ok {l : List UInt8} {k a d dp bad : Int} {x : ByteArray} (n : Nat) : (psJ l k a x d dp bad).okN n := by
 intro e he
 rw [List.mem_singleton] at he
 subst he
 refine ⟨rfl, fun y hy => ?_⟩
 simp only [List.mem_cons, List.not_mem_nil, or_false] at hy
 rcases hy with rfl | rfl | rfl | rfl | rfl | rfl | rfl <;> trivial
theorem HOk.psJ {l : List UInt8} {k a d dp bad : Int} {x : ByteArray} {i : Nat} (h : HOk H) : HOk (H.set i (psJ l k a x d dp bad)) := HOk.set h (psJ_ok _)
theorem Ret.nd {A : Hp} {n : Nat} {ty : Nat} {cs : List AC} {own : Bool} (hA : HOk A) (hn : n = A.length) (hp : pureL [cs] = true) (hk : K (.c (.fp cs)) A) : Ret n (.c (.ptr (some (n, 0, 0)))) (A ++ [.row ty 5 [cs] own]) K := by
 subst hn
 exact Ret.node1 (v' := .c (.fp cs)) (els := [cs]) 0 hA (Nat.le_refl _) rfl hp (by simp [AV.frzX, AV.frzX1, AC.frzX]) trivial hk
theorem failP_a {i : Nat} {l : List UInt8} {k a d dp bad : Int} {x : ByteArray} (hi : H[i]? = some (psJ l k a x d dp bad)) (hk : K (.c (.fp ndE0)) (H.set i (psJ l k a x d dp (if bad < 0 then a else bad)))) : ACalls Tryz.prog 154 [.c (.ptr (some (i, 0, 0)))] H K := by
 have hil := getElem?_lt hi
 by_cases h1 : bad < 0
 ·rw [if_pos h1] at hk
  unfold psJ at hi
  refine acalls Tryz.func154 rfl (by kernel_rfl) (by simp (disch := first | omega | (simp only [go_sem]; try omega)) only [go_sem]) (fun hH => ?_)
  simp (disch := first | omega | (simp only [go_sem]; try omega)) only [go_sem, hi, h1]
  exact Ret.nd (HOk.psJ (l := l) (k := k) (a := a) (x := x) (d := d) (dp := dp) (bad := a) hH) (by simp) rfl hk
 ·rw [if_neg h1, set_same hi] at hk
  unfold psJ at hi
  refine acalls Tryz.func154 rfl (by kernel_rfl) (by simp (disch := first | omega | (simp only [go_sem]; try omega)) only [go_sem]) (fun hH => ?_)
  simp (disch := first | omega | (simp only [go_sem]; try omega)) only [go_sem, hi, h1]
  exact Ret.nd hH rfl rfl hk
theorem is_tok {l : List UInt8} {t : Tok} (h : tkOk l t) (c : UInt8) : decide (prK t = 3 ∧ tB t.x = tB [c]) = (sgT t [c]).isSome := by
 unfold sgT prK
 rcases h.2.2 with h | h | h | h | h
 ·rw [h.1]; rfl
 ·rw [h.1, if_pos rfl, if_neg (show ¬ (1 : Nat) = 3 by decide)]
  split <;> rfl
 ·rw [h.1]
  rw [if_neg (show ¬ (2 : Nat) = 1 by decide), if_pos rfl, if_neg (show ¬ (2 : Nat) = 3 by decide)]
  split <;> rfl
 ·obtain ⟨d, _, hd⟩ := h.2
  rw [h.1, hd, if_neg (show ¬ (3 : Nat) = 1 by decide), if_neg (show ¬ (3 : Nat) = 2 by decide), if_pos rfl]
  dsimp only
  by_cases e : d = c
  ·subst e
   rw [if_pos (by simp)]
   simp
  ·rw [if_neg (by simpa using e)]
   rw [decide_eq_false]
   ·rfl
   ·rintro ⟨_, h2⟩
    rw [tB_inj] at h2
    exact e (by simpa using h2)
 ·rw [h.1]; rfl
theorem psO_cons (l : List UInt8) (t : Tok) (T : List Tok) (d dp : Int) : psO l (t :: T) d dp = psJ l (prK t) t.o (tB t.x) d dp (-1) := rfl
theorem isT_a {i : Nat} {l : List UInt8} {t : Tok} {T : List Tok} {d dp : Int} (c : UInt8) (s : ByteArray) (hs : s = tB [c]) (ht : tkOk l t) (hi : H[i]? = some (psO l (t :: T) d dp)) (hk : K (.c (.bool ((sgT t [c]).isSome))) H) : ACalls Tryz.prog 292 [.c (.ptr (some (i, 0, 0))), (.c (.str s))] H K := by
 subst hs
 rw [← is_tok ht c] at hk
 exact isP_a _ hi hk
theorem nextP_a {i : Nat} {l : List UInt8} {t : Tok} {T : List Tok} {d dp : Int} (hl : l.length ≤ 1000) (hT : Tl l (t :: T)) (ht : t.k ≠ 0 ∧ t.k ≠ 4) (hi : H[i]? = some (psO l (t :: T) d dp)) (hk : K (.tup []) (H.set i (psO l T d (deepF d dp t)))) : ACalls Tryz.prog 246 [.c (.ptr (some (i, 0, 0)))] H K := by
 have hil := getElem?_lt hi
 have hto := hT.ok
 have h1 := hto.1
 have hsz := tB_size t.x
 have hT1 : T = tokF (l.drop (t.o + t.x.length)) (t.o + t.x.length) := by
  obtain ⟨t', T1, e, _, h2⟩ := hT.head
  injection e with e1 e2
  subst e1 e2
  rcases h2 with ⟨h2, _⟩ | ⟨_, h2, _⟩
  ·omega
  ·exact h2
 obtain ⟨o', ho'⟩ : ∃ o', o' = t.o + t.x.length := ⟨_, rfl⟩
 have ho2 : (t.o : Int) + (t.x.length : Int) = (o' : Int) := by omega
 rw [← ho'] at hT1 h1
 have hfin : ∀ (u : Tok) (T' : List Tok), tokF (l.drop o') o' = u :: T' → K (.tup []) (H.set i (psJ l (prK u) u.o (tB u.x) d (deepF d dp t) (-1))) := fun u T' hu => by
  rw [← hT1] at hu
  rw [hu] at hk
  exact hk
 rw [psO_cons] at hi
 unfold psJ at hi hfin
 by_cases h2 : dp < 0
 ·by_cases h3 : 20 < d
  ·have hd : deepF d dp t = t.o := by unfold deepF; rw [if_pos ⟨h2, h3⟩]
   rw [hd] at hfin
   refine acalls Tryz.func246 rfl (by kernel_rfl) (by simp (disch := first | omega | (simp only [go_sem]; try omega)) only [go_sem]) (fun hH => ?_)
   simp (disch := first | omega | (simp only [go_sem]; try omega)) only [go_sem, hi, h2, h3]
   repeat' (first | ((first | refine acond_d ?_ ?_ | refine acond_b ?_ ?_ | refine ag_d ?_ ?_ | refine ag_n ?_ ?_ | refine ag_bt ?_ ?_ | refine ag_bf ?_ ?_) <;> intro c <;> try simp (disch := first | omega | (simp only [go_sem]; try omega)) only [go_sem, c, hsz, ho2]) | ((first | refine w_draw (by kernel_rfl) (by decide +kernel) ?_ | refine scan_a l o' h1 hl (fun u T' hu => ?_)) <;> try simp (disch := first | omega | (simp only [go_sem]; try omega)) only [go_sem, hsz, ho2]))
   exact Ret.same (by simp) (hfin u T' hu)
  ·have hd : deepF d dp t = dp := by unfold deepF; rw [if_neg (fun h => h3 h.2)]
   rw [hd] at hfin
   refine acalls Tryz.func246 rfl (by kernel_rfl) (by simp (disch := first | omega | (simp only [go_sem]; try omega)) only [go_sem]) (fun hH => ?_)
   simp (disch := first | omega | (simp only [go_sem]; try omega)) only [go_sem, hi, h2, h3]
   repeat' (first | ((first | refine acond_d ?_ ?_ | refine acond_b ?_ ?_ | refine ag_d ?_ ?_ | refine ag_n ?_ ?_ | refine ag_bt ?_ ?_ | refine ag_bf ?_ ?_) <;> intro c <;> try simp (disch := first | omega | (simp only [go_sem]; try omega)) only [go_sem, c, hsz, ho2, hi]) | ((first | refine w_draw (by kernel_rfl) (by decide +kernel) ?_ | refine scan_a l o' h1 hl (fun u T' hu => ?_)) <;> try simp (disch := first | omega | (simp only [go_sem]; try omega)) only [go_sem, hsz, ho2, hi]))
   exact Ret.same (by simp) (hfin u T' hu)
 ·have hd : deepF d dp t = dp := by unfold deepF; rw [if_neg (fun h => h2 h.1)]
  rw [hd] at hfin
  refine acalls Tryz.func246 rfl (by kernel_rfl) (by simp (disch := first | omega | (simp only [go_sem]; try omega)) only [go_sem]) (fun hH => ?_)
  simp (disch := first | omega | (simp only [go_sem]; try omega)) only [go_sem, hi, h2]
  repeat' (first | ((first | refine acond_d ?_ ?_ | refine acond_b ?_ ?_ | refine ag_d ?_ ?_ | refine ag_n ?_ ?_ | refine ag_bt ?_ ?_ | refine ag_bf ?_ ?_) <;> intro c <;> try simp (disch := first | omega | (simp only [go_sem]; try omega)) only [go_sem, c, hsz, ho2, hi]) | ((first | refine w_draw (by kernel_rfl) (by decide +kernel) ?_ | refine scan_a l o' h1 hl (fun u T' hu => ?_)) <;> try simp (disch := first | omega | (simp only [go_sem]; try omega)) only [go_sem, hsz, ho2, hi]))
  exact Ret.same (by simp) (hfin u T' hu)
end Go.Proofs.YtagoolooikpabaaGreatDoor
namespace Go.Proofs.YtagoolooikpabaaGreatDoor
open Go Go.RowKit
set_option maxRecDepth 100000
set_option maxHeartbeats 2000000
variable {H : Hp} {K : AV → Hp → Prop}
theorem ix_mem (c : UInt8) : ∀ l : List UInt8, decide (0 ≤ Lib.indexByte l c) = decide (c ∈ l)
 | [] => rfl
 | b :: l => by
  have ih := ix_mem c l
  unfold Lib.indexByte
  by_cases h : b = c
  ·subst h
   simp
  ·have h' : (b == c) = false := by simpa using h
   rw [h']
   have hm : decide (c ∈ b :: l) = decide (c ∈ l) := by
    congr 1
    rw [List.mem_cons, eq_iff_iff]
    exact ⟨fun e => e.resolve_left (fun e => h e.symm), .inr⟩
   rw [hm, ← ih]
   by_cases h1 : Lib.indexByte l c = -1
   ·rw [h1]; rfl
   ·have h2 : (Lib.indexByte l c == -1) = false := by simpa using h1
    rw [h2]
    have key : ∀ l : List UInt8, -1 ≤ Lib.indexByte l c := by
     intro l
     induction l with
     | nil => exact Int.le_refl _
     | cons x r ih =>
      unfold Lib.indexByte
      split
      ·omega
      ·split
       ·omega
       ·omega
    have := key l
    rw [if_neg (by decide), if_neg (by decide)]
    congr 1
    rw [eq_iff_iff]
    omega
theorem containsC_a (ops : List UInt8) (c : UInt8) (hk : K (.c (.bool (decide (c ∈ ops)))) H) : ACalls Tryz.prog 58 [(.c (.str (tB ops))), (.c (.str (tB [c])))] H K := by
 refine acalls Tryz.func58 rfl (by kernel_rfl) (by simp (disch := first | omega | (simp only [go_sem]; try omega)) only [go_sem]) (fun hH => ?_)
 simp (disch := first | omega | (simp only [go_sem]; try omega)) only [go_sem]
 refine indexS_a (tB ops) c ?_
 rw [show tL (tB ops) = ops from tL_tB ops]
 simp (disch := first | omega | (simp only [go_sem]; try omega)) only [go_sem]
 rw [ix_mem]
 exact Ret.same (Nat.le_refl _) hk
def encNd : Ex → List AC
 | .num n => [.str ⟨#[110, 117, 109, 98, 101, 114]⟩, .int .i64 n, .str ⟨#[]⟩, .sl none 0, .bool false]
 | .tag x none => [.str ⟨#[116, 97, 103]⟩, .int .i64 0, .str (tB x), .sl none 0, .bool false]
 | .tag x (some n) => [.str ⟨#[116, 97, 103]⟩, .int .i64 n, .str (tB x), .sl none 0, .bool true]
 | .neg a => [.str ⟨#[109, 105, 110, 117, 115]⟩, .int .i64 0, .str ⟨#[]⟩, .lst 1 [[.fp (encNd a)]], .bool false]
 | .bin c a b => [.str (tB [c]), .int .i64 0, .str ⟨#[]⟩, .lst 1 [[.fp (encNd a)], [.fp (encNd b)]], .bool false]
 | .f1 f a => [.str (tB f), .int .i64 0, .str ⟨#[]⟩, .lst 1 [[.fp (encNd a)]], .bool false]
 | .f2 f a b => [.str (tB f), .int .i64 0, .str ⟨#[]⟩, .lst 1 [[.fp (encNd a)], [.fp (encNd b)]], .bool false]
 | .f3 f a b c => [.str (tB f), .int .i64 0, .str ⟨#[]⟩, .lst 1 [[.fp (encNd a)], [.fp (encNd b)], [.fp (encNd c)]], .bool false]
def RdC (f : FuncId) (l : List UInt8) (n : Nat) (d : Int) (rd : List Tok → Int → PR Ex) : Prop :=
 ∀ (i : Nat) (H : Hp) (K : AV → Hp → Prop) (T : List Tok) (dp : Int), H[i]? = some (psO l T d dp) → Tl l T → T.length ≤ n →
  (∀ x T' dp', rd T dp = .ok (x, T', dp') → K (.c (.fp (encNd x))) (H.set i (psO l T' d dp'))) →
  (∀ (e : Nat) (k a : Int) (s : ByteArray) (d' dp' : Int) (cs : List AC), rd T dp = .error e → K (.c (.fp cs)) (H.set i (psJ l k a s d' dp' e))) →
  ACalls Tryz.prog f [.c (.ptr (some (i, 0, 0)))] H K
structure JS where
 x : Ex
 T : List Tok
 dp : Int
 m : Nat
structure JE where
 e : Nat
 cs : List AC
 k : Int
 a : Int
 s : ByteArray
 d : Int
 dp : Int
def jV : JS ⊕ JE → AV
 | .inl q => .c (.fp (encNd q.x))
 | .inr q => .c (.fp q.cs)
def jO (l : List UInt8) (d : Int) : JS ⊕ JE → AObj
 | .inl q => psO l q.T d q.dp
 | .inr q => psJ l q.k q.a q.s q.d q.dp q.e
def jI (l : List UInt8) (ops : List UInt8) (rd : List Tok → Int → PR Ex) (d : Int) (many : Bool) (N : Nat) (res : PR Ex) : JS ⊕ JE → Prop
 | .inl q => rowF ops rd d q.m q.x q.T q.dp = res ∧ Tl l q.T ∧ q.T.length ≤ N ∧ (many = true → q.T.length ≤ q.m) ∧ (many = false → q.m = 1)
 | .inr q => res = .error q.e
def jM : JS ⊕ JE → Nat
 | .inl q => q.T.length + 1
 | .inr _ => 0
theorem WkL.bin {A : Hp} {m n : Nat} {ty1 ty2 : Nat} {s : ByteArray} {x y : List AC} {o1 o2 : Bool} (hA : HOk A) (hm : m = A.length) (hn : n = A.length) (hn2 : n + 1 = A.length + 1) : WkL m [.c (.ptr (some (n + 1, 0, 0)))] (A ++ [.row ty1 1 [[.fp x], [.fp y]] o1, .row ty2 5 [[.str s, .int .i64 0, .str ⟨#[]⟩, .sl (some (n, 0)) 2, .bool false]] o2]) [.c (.fp [.str s, .int .i64 0, .str ⟨#[]⟩, .lst 1 [[.fp x], [.fp y]], .bool false])] A := by
 subst hn
 refine WkL.node (els := [[.fp x], [.fp y]]) (cs' := [.str s, .int .i64 0, .str ⟨#[]⟩, .lst 1 [[.fp x], [.fp y]], .bool false]) 0 1 hA (by omega) rfl rfl rfl (by decide) ?_ rfl ?_ ?_
 ·simp [AC.frzX]
 ·simp [AV.frzX, AV.frzX1, AC.frzX]
 ·intro z hz
  rw [List.mem_singleton] at hz
  subst hz
  trivial
theorem joined_a {l : List UInt8} (hl : l.length ≤ 1000) {f : FuncId} {n : Nat} {d : Int} {rd : List Tok → Int → PR Ex} (hent : entersB Tryz.prog f = true) (hrd : RdC f l n d rd) (hg : RdG l rd) (ops : List UInt8) (many : Bool) (i : Nat) (T : List Tok) (dp : Int)
  (hi : H[i]? = some (psO l T d dp)) (hT : Tl l T) (hn : T.length ≤ n)
  (hk1 : ∀ x T' dp', joinF ops many rd d T dp = .ok (x, T', dp') → K (.c (.fp (encNd x))) (H.set i (psO l T' d dp')))
  (hk2 : ∀ (e : Nat) (k a : Int) (s : ByteArray) (d' dp' : Int) (cs : List AC), joinF ops many rd d T dp = .error e → K (.c (.fp cs)) (H.set i (psJ l k a s d' dp' e))) :
  ACalls Tryz.prog 193 [.c (.ptr (some (i, 0, 0))), .c (.fn f [(i, 0, 0)] []), (.c (.str (tB ops))), (.c (.bool many))] H K := by
 have hil := getElem?_lt hi
 refine acalls Tryz.func193 rfl (by kernel_rfl) (by simp (disch := first | omega | (simp only [go_sem]; try omega)) only [go_sem]) (fun hH => ?_)
 simp (disch := first | omega | (simp only [go_sem]; try omega)) only [go_sem, hent]
 refine hrd i H _ T dp hi hT hn (fun x T1 dp1 h1 => ?_) (fun e k a s d' dp' cs h1 => ?_)
 ·obtain ⟨g1, g2, g3⟩ := hg _ _ _ _ _ hT h1
  have hj : joinF ops many rd d T dp = rowF ops rd d (if many = true then T1.length else 1) x T1 dp1 := by unfold joinF; rw [h1]
  rw [hj] at hk1 hk2
  obtain ⟨res, hres⟩ : ∃ res, res = rowF ops rd d (if many = true then T1.length else 1) x T1 dp1 := ⟨_, rfl⟩
  rw [← hres] at hk1 hk2
  simp (disch := first | omega | (simp only [go_sem]; try omega)) only [go_sem]
  refine AWp.loop (H.length) [0, 1, 2, 3] [9] (fun (s : JS ⊕ JE) => jI l ops rd d many T1.length res s) (fun (s : JS ⊕ JE) => [(9, jV s)]) (fun (s : JS ⊕ JE) => H.set i (jO l d s)) (fun (s : JS ⊕ JE) => jM s) (by kernel_rfl) (fun _ => rfl) (by kernel_rfl) (by first | (simp; done) | omega) (by first | (simp; done) | (simp; omega) | omega) kl ?_ (fun s q _ _ => ?_)
  ·refine Next.mk (.inl ⟨x, T1, dp1, if many = true then T1.length else 1⟩) ⟨hres.symm, g2, Nat.le_refl _, fun h => ?_, fun h => ?_⟩ wk
   ·rw [if_pos h]; exact Nat.le_refl _
   ·rw [h]; rfl
  rcases s with ⟨x, T, dp, m⟩ | ⟨e, cs, k, a, s, d', dp'⟩
  ·obtain ⟨q1, q2, q3, q4, q5⟩ := q
   dsimp only at q1 q2 q3 q4 q5
   obtain ⟨t, T2, rfl, htk, _⟩ := q2.head
   obtain ⟨m', rfl⟩ : ∃ m', m = m' + 1 := by
    cases many with
    | true => have := q4 rfl; rw [List.length_cons] at this; exact ⟨m - 1, by omega⟩
    | false => exact ⟨0, q5 rfl⟩
   have hstep : rowF ops rd d (m' + 1) x (t :: T2) dp = match sgT t ops with
    | none => .ok (x, t :: T2, dp)
    | some c => match rd T2 (deepF d dp t) with
     | .error e => .error e
     | .ok (y, T3, dp3) => rowF ops rd d m' (.bin c x y) T3 dp3 := rfl
   rw [q1] at hstep
   dsimp only [jV, jO]
   rw [psO_cons]
   unfold psJ
   by_cases hk3 : t.k = 3
   ·obtain ⟨c, hc1, hc2⟩ : ∃ c ∈ sgnL, t.x = [c] := by
     rcases htk.2.2 with h | h | h | h | h
     ·omega
     ·omega
     ·omega
     ·exact h.2
     ·omega
    have hpk : prK t = 3 := by unfold prK; rw [hk3]; rfl
    simp (disch := first | omega | (simp only [go_sem]; try omega)) only [go_sem, hpk, hc2]
    refine containsC_a ops c ?_
    by_cases hco : c ∈ ops
    ·have hsg : sgT t ops = some c := by unfold sgT; rw [if_pos hk3, hc2]; dsimp only; rw [if_pos hco]
     rw [hsg] at hstep
     dsimp only at hstep
     have hT2 : Tl l T2 := (q2.next (by omega)).1
     rw [decide_eq_true hco]
     simp (disch := first | omega | (simp only [go_sem]; try omega)) only [go_sem]
     refine nextP_a (t := t) (T := T2) (d := d) (dp := dp) hl q2 (by omega) (by rw [List.getElem?_set_self hil, psO_cons, hc2, hpk]; rfl) ?_
     simp (disch := first | omega | (simp only [go_sem]; try omega)) only [go_sem, hc2, hent]
     rw [List.length_cons] at q3
     refine hrd i _ _ T2 (deepF d dp t) (List.getElem?_set_self (by simpa using hil)) hT2 (by omega) (fun y T3 dp3 hy => ?_) (fun e k a s d' dp' cs hy => ?_)
     ·rw [hy] at hstep
      dsimp only at hstep
      obtain ⟨r1, r2, r3⟩ := hg _ _ _ _ _ hT2 hy
      have hok : HOk (H.set i (psO l T3 d dp3)) := HOk.psJ hH
      cases many with
      | true =>
       simp (disch := first | omega | (simp only [go_sem]; try omega)) only [go_sem]
       refine Next.mk (.inl ⟨.bin c x y, T3, dp3, m'⟩) ⟨⟨hstep.symm, r2, by dsimp only; omega, fun _ => ?_, fun h => by cases h⟩, ?_⟩ ?_
       ·have := q4 rfl
        dsimp only
        rw [List.length_cons] at this
        omega
       ·show T3.length + 1 < (t :: T2).length + 1
        rw [List.length_cons]
        omega
       ·exact WkL.bin hok (by simp) (by simp) (by simp)
      | false =>
       have hm0 : m' = 0 := by have := q5 rfl; omega
       subst hm0
       simp (disch := first | omega | (simp only [go_sem]; try omega)) only [go_sem]
       exact Ret.wk (WkL.bin hok (by simp) (by simp) (by simp)) (hk1 _ _ _ hstep)
     ·rw [hy] at hstep
      dsimp only at hstep
      have hok : HOk (H.set i (psJ l k a s d' dp' e)) := HOk.psJ hH
      cases many with
      | true =>
       simp (disch := first | omega | (simp only [go_sem]; try omega)) only [go_sem]
       refine Next.mk (.inr ⟨e, [.str (tB [c]), .int .i64 0, .str ⟨#[]⟩, .lst 1 [[.fp (encNd x)], [.fp cs]], .bool false], k, a, s, d', dp'⟩) ⟨hstep, ?_⟩ ?_
       ·show 0 < (t :: T2).length + 1
        omega
       ·exact WkL.bin hok (by simp) (by simp) (by simp)
      | false =>
       simp (disch := first | omega | (simp only [go_sem]; try omega)) only [go_sem]
       exact Ret.wk (WkL.bin hok (by simp) (by simp) (by simp)) (hk2 _ _ _ _ _ _ _ hstep)
    ·have hsg : sgT t ops = none := by unfold sgT; rw [if_pos hk3, hc2]; dsimp only; rw [if_neg hco]
     rw [hsg] at hstep
     have hk := hk1 _ _ _ hstep
     rw [psO_cons, hc2, hpk] at hk
     unfold psJ at hk
     rw [decide_eq_false hco]
     simp (disch := first | omega | (simp only [go_sem]; try omega)) only [go_sem]
     exact Ret.same (by simp) hk
   ·have hsg : sgT t ops = none := by unfold sgT; rw [if_neg hk3]
    have hpk : ¬ prK t = 3 := by
     unfold prK
     rcases htk.2.2 with h | h | h | h | h
     ·rw [h.1]; simp
     ·rw [h.1, if_pos rfl]; split <;> decide
     ·rw [h.1, if_neg (show ¬ (2 : Nat) = 1 by decide), if_pos rfl]; split <;> decide
     ·exact absurd h.1 hk3
     ·rw [h.1]; simp
    rw [hsg] at hstep
    have hk := hk1 _ _ _ hstep
    rw [psO_cons] at hk
    unfold psJ at hk
    simp (disch := first | omega | (simp only [go_sem]; try omega)) only [go_sem, hpk]
    exact Ret.same (by simp) hk
  ·have hk := hk2 e k a s d' dp' cs q
   unfold psJ at hk
   dsimp only [jV, jO]
   unfold psJ
   simp (disch := first | omega | (simp only [go_sem]; try omega)) only [go_sem]
   exact Ret.same (by simp) hk
 ·have hj : joinF ops many rd d T dp = .error e := by unfold joinF; rw [h1]
  have hk := hk2 e k a s d' dp' cs hj
  unfold psJ at hk ⊢
  simp (disch := first | omega | (simp only [go_sem]; try omega)) only [go_sem]
  refine AWp.rounds 0 (by kernel_rfl) ?_
  simp (disch := first | omega | (simp only [go_sem]; try omega)) only [go_sem]
  exact Ret.same (by simp) hk
end Go.Proofs.YtagoolooikpabaaGreatDoor
