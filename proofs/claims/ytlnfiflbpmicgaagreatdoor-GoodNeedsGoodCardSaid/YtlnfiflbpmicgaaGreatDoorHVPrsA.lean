/- The program's parser: its small steps. Condition: the text is not long. -/
import Derived.Test.YtlnfiflbpmicgaaGreatDoorHVScan
import Derived.Test.YtlnfiflbpmicgaaGreatDoorHVTxtA
import Derived.Test.YtlnfiflbpmicgaaGreatDoorHCoreFrz
namespace Go.Proofs.YtlnfiflbpmicgaaGreatDoor
open Go Go.RowKit
set_option maxRecDepth 100000
set_option linter.all false
set_option maxHeartbeats 2000000
variable {H : Hp} {K : AV → Hp → Prop}
def psJ (l : List UInt8) (k a : Int) (x : ByteArray) (d dp bad : Int) : AObj := .row 196 7 [[.str (tB l), .int .i64 k, .int .i64 a, .str x, .int .i64 d, .int .i64 dp, .int .i64 bad]] true
def psO (l : List UInt8) (T : List Tok) (d dp : Int) : AObj := psJ l (prK (T.headD ⟨0, [], 0⟩)) (T.headD ⟨0, [], 0⟩).o (tB (T.headD ⟨0, [], 0⟩).x) d dp (-1)
attribute [go_sem] prT
def ndE0 : List AC := [.str ⟨#[]⟩, .int .i64 0, .str ⟨#[]⟩, .sl none 0, .bool false]
theorem isP_a {i : Nat} {l : List UInt8} {k a d dp bad : Int} {x : ByteArray} (s : ByteArray) (hi : H[i]? = some (psJ l k a x d dp bad)) (hk : K (.c (.bool (decide (k = 3 ∧ x = s)))) H) : ACalls Tryz.prog 322 [.c (.ptr (some (i, 0, 0))), (.c (.str s))] H K := by
  unfold psJ at hi
  by_cases h1 : k = 3
  · by_cases h2 : x = s
    · rw [decide_eq_true ⟨h1, h2⟩] at hk
      refine acalls Tryz.func322 rfl (by kernel_rfl) (by simp (disch := first | omega | (simp only [go_sem]; first | done | omega)) only [go_sem]) (fun hH => ?_)
      simp (disch := first | omega | (simp only [go_sem]; first | done | omega)) only [go_sem, hi, h1, h2]
      exact Ret.same (Nat.le_refl _) hk
    · rw [decide_eq_false (fun h => h2 h.2)] at hk
      refine acalls Tryz.func322 rfl (by kernel_rfl) (by simp (disch := first | omega | (simp only [go_sem]; first | done | omega)) only [go_sem]) (fun hH => ?_)
      simp (disch := first | omega | (simp only [go_sem]; first | done | omega)) only [go_sem, hi, h1, h2]
      exact Ret.same (Nat.le_refl _) hk
  · rw [decide_eq_false (fun h => h1 h.1)] at hk
    refine acalls Tryz.func322 rfl (by kernel_rfl) (by simp (disch := first | omega | (simp only [go_sem]; first | done | omega)) only [go_sem]) (fun hH => ?_)
    simp (disch := first | omega | (simp only [go_sem]; first | done | omega)) only [go_sem, hi, h1]
    exact Ret.same (Nat.le_refl _) hk
theorem psJ_ok {l : List UInt8} {k a d dp bad : Int} {x : ByteArray} (n : Nat) : (psJ l k a x d dp bad).okN n := by
  intro e he
  rw [List.mem_singleton] at he
  subst he
  refine ⟨rfl, fun y hy => ?_⟩
  simp only [List.mem_cons, List.not_mem_nil, or_false] at hy
  rcases hy with rfl | rfl | rfl | rfl | rfl | rfl | rfl <;> trivial
theorem HOk.psJ {l : List UInt8} {k a d dp bad : Int} {x : ByteArray} {i : Nat} (h : HOk H) : HOk (H.set i (psJ l k a x d dp bad)) := HOk.set h (psJ_ok _)
theorem Ret.nd {A : Hp} {n : Nat} {ty : Nat} {cs : List AC} {own : Bool} (hA : HOk A) (hn : n = A.length) (hp : pureL [cs] = true) (hk : K (.c (.fp cs)) A) : Ret n (.c (.ptr (some (n, 0, 0)))) (A ++ [.row ty 5 [cs] own]) K := by
  subst hn
  exact Ret.node1 (v' := .c (.fp cs)) (els := [cs]) 0 hA (Nat.le_refl _) rfl hp (by simp [AV.frzX, AV.frzX1, AC.frzX]) trivial hk
theorem failP_a {i : Nat} {l : List UInt8} {k a d dp bad : Int} {x : ByteArray} (hi : H[i]? = some (psJ l k a x d dp bad)) (hk : K (.c (.fp ndE0)) (H.set i (psJ l k a x d dp (if bad < 0 then a else bad)))) : ACalls Tryz.prog 139 [.c (.ptr (some (i, 0, 0)))] H K := by
  have hil := getElem?_lt hi
  by_cases h1 : bad < 0
  · rw [if_pos h1] at hk
    unfold psJ at hi
    refine acalls Tryz.func139 rfl (by kernel_rfl) (by simp (disch := first | omega | (simp only [go_sem]; first | done | omega)) only [go_sem]) (fun hH => ?_)
    simp (disch := first | omega | (simp only [go_sem]; first | done | omega)) only [go_sem, hi, h1]
    exact Ret.nd (HOk.psJ (l := l) (k := k) (a := a) (x := x) (d := d) (dp := dp) (bad := a) hH) (by simp) rfl hk
  · rw [if_neg h1, set_same hi] at hk
    unfold psJ at hi
    refine acalls Tryz.func139 rfl (by kernel_rfl) (by simp (disch := first | omega | (simp only [go_sem]; first | done | omega)) only [go_sem]) (fun hH => ?_)
    simp (disch := first | omega | (simp only [go_sem]; first | done | omega)) only [go_sem, hi, h1]
    exact Ret.nd hH rfl rfl hk
theorem is_tok {l : List UInt8} {t : Tok} (h : tkOk l t) (c : UInt8) : decide (prK t = 3 ∧ tB t.x = tB [c]) = (sgT t [c]).isSome := by
  unfold sgT prK
  rcases h.2.2 with h | h | h | h | h
  · rw [h.1]; rfl
  · rw [h.1, if_pos rfl, if_neg (show ¬ (1 : Nat) = 3 by decide)]
    split <;> rfl
  · rw [h.1]
    rw [if_neg (show ¬ (2 : Nat) = 1 by decide), if_pos rfl, if_neg (show ¬ (2 : Nat) = 3 by decide)]
    split <;> rfl
  · obtain ⟨d, _, hd⟩ := h.2
    rw [h.1, hd, if_neg (show ¬ (3 : Nat) = 1 by decide), if_neg (show ¬ (3 : Nat) = 2 by decide), if_pos rfl]
    dsimp only
    by_cases e : d = c
    · subst e
      rw [if_pos (by simp)]
      simp
    · rw [if_neg (by simpa using e)]
      rw [decide_eq_false]
      · rfl
      · rintro ⟨_, h2⟩
        rw [tB_inj] at h2
        exact e (by simpa using h2)
  · rw [h.1]; rfl
theorem psO_cons (l : List UInt8) (t : Tok) (T : List Tok) (d dp : Int) : psO l (t :: T) d dp = psJ l (prK t) t.o (tB t.x) d dp (-1) := rfl
theorem isT_a {i : Nat} {l : List UInt8} {t : Tok} {T : List Tok} {d dp : Int} (c : UInt8) (s : ByteArray) (hs : s = tB [c]) (ht : tkOk l t) (hi : H[i]? = some (psO l (t :: T) d dp)) (hk : K (.c (.bool ((sgT t [c]).isSome))) H) : ACalls Tryz.prog 322 [.c (.ptr (some (i, 0, 0))), (.c (.str s))] H K := by
  subst hs
  rw [← is_tok ht c] at hk
  exact isP_a _ hi hk
theorem nextP_a {i : Nat} {l : List UInt8} {t : Tok} {T : List Tok} {d dp : Int} (hl : l.length ≤ 1000) (hT : Tl l (t :: T)) (ht : t.k ≠ 0 ∧ t.k ≠ 4) (hi : H[i]? = some (psO l (t :: T) d dp)) (hk : K (.tup []) (H.set i (psO l T d (deepF d dp t)))) : ACalls Tryz.prog 252 [.c (.ptr (some (i, 0, 0)))] H K := by
  have hil := getElem?_lt hi
  have hto := hT.ok
  have h1 := hto.1
  have hsz := tB_size t.x
  have hT1 : T = tokF (l.drop (t.o + t.x.length)) (t.o + t.x.length) := by
    obtain ⟨t', T1, e, _, h2⟩ := hT.head
    injection e with e1 e2
    subst e1 e2
    rcases h2 with ⟨h2, _⟩ | ⟨_, h2, _⟩
    · omega
    · exact h2
  obtain ⟨o', ho'⟩ : ∃ o', o' = t.o + t.x.length := ⟨_, rfl⟩
  have ho2 : (t.o : Int) + (t.x.length : Int) = (o' : Int) := by omega
  rw [← ho'] at hT1 h1
  have hfin : ∀ (u : Tok) (T' : List Tok), tokF (l.drop o') o' = u :: T' → K (.tup []) (H.set i (psJ l (prK u) u.o (tB u.x) d (deepF d dp t) (-1))) := fun u T' hu => by
    rw [← hT1] at hu
    rw [hu] at hk
    exact hk
  rw [psO_cons] at hi
  unfold psJ at hi hfin
  by_cases h2 : dp < 0
  · by_cases h3 : 20 < d
    · have hd : deepF d dp t = t.o := by unfold deepF; rw [if_pos ⟨h2, h3⟩]
      rw [hd] at hfin
      refine acalls Tryz.func252 rfl (by kernel_rfl) (by simp (disch := first | omega | (simp only [go_sem]; first | done | omega)) only [go_sem]) (fun hH => ?_)
      simp (disch := first | omega | (simp only [go_sem]; first | done | omega)) only [go_sem, hi, h2, h3]
      repeat' (first | ((first | refine acond_d ?_ ?_ | refine acond_b ?_ ?_ | refine ag_d ?_ ?_ | refine ag_n ?_ ?_ | refine ag_bt ?_ ?_ | refine ag_bf ?_ ?_) <;> intro c <;> try simp (disch := first | omega | (simp only [go_sem]; first | done | omega)) only [go_sem, c, hsz, ho2]) | ((first | refine w_draw (by kernel_rfl) (by decide +kernel) ?_ | refine scan_a l o' h1 hl (fun u T' hu => ?_)) <;> try simp (disch := first | omega | (simp only [go_sem]; first | done | omega)) only [go_sem, hsz, ho2]))
      exact Ret.same (by simp) (hfin u T' hu)
    · have hd : deepF d dp t = dp := by unfold deepF; rw [if_neg (fun h => h3 h.2)]
      rw [hd] at hfin
      refine acalls Tryz.func252 rfl (by kernel_rfl) (by simp (disch := first | omega | (simp only [go_sem]; first | done | omega)) only [go_sem]) (fun hH => ?_)
      simp (disch := first | omega | (simp only [go_sem]; first | done | omega)) only [go_sem, hi, h2, h3]
      repeat' (first | ((first | refine acond_d ?_ ?_ | refine acond_b ?_ ?_ | refine ag_d ?_ ?_ | refine ag_n ?_ ?_ | refine ag_bt ?_ ?_ | refine ag_bf ?_ ?_) <;> intro c <;> try simp (disch := first | omega | (simp only [go_sem]; first | done | omega)) only [go_sem, c, hsz, ho2, hi]) | ((first | refine w_draw (by kernel_rfl) (by decide +kernel) ?_ | refine scan_a l o' h1 hl (fun u T' hu => ?_)) <;> try simp (disch := first | omega | (simp only [go_sem]; first | done | omega)) only [go_sem, hsz, ho2, hi]))
      exact Ret.same (by simp) (hfin u T' hu)
  · have hd : deepF d dp t = dp := by unfold deepF; rw [if_neg (fun h => h2 h.1)]
    rw [hd] at hfin
    refine acalls Tryz.func252 rfl (by kernel_rfl) (by simp (disch := first | omega | (simp only [go_sem]; first | done | omega)) only [go_sem]) (fun hH => ?_)
    simp (disch := first | omega | (simp only [go_sem]; first | done | omega)) only [go_sem, hi, h2]
    repeat' (first | ((first | refine acond_d ?_ ?_ | refine acond_b ?_ ?_ | refine ag_d ?_ ?_ | refine ag_n ?_ ?_ | refine ag_bt ?_ ?_ | refine ag_bf ?_ ?_) <;> intro c <;> try simp (disch := first | omega | (simp only [go_sem]; first | done | omega)) only [go_sem, c, hsz, ho2, hi]) | ((first | refine w_draw (by kernel_rfl) (by decide +kernel) ?_ | refine scan_a l o' h1 hl (fun u T' hu => ?_)) <;> try simp (disch := first | omega | (simp only [go_sem]; first | done | omega)) only [go_sem, hsz, ho2, hi]))
    exact Ret.same (by simp) (hfin u T' hu)
end Go.Proofs.YtlnfiflbpmicgaaGreatDoor
