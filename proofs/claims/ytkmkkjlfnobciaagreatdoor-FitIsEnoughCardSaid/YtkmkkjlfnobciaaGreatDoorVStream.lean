/- The stream that the statements draw from. No condition. -/
import Derived.Test.YtkmkkjlfnobciaaGreatDoorVa
namespace Go.Proofs.YtkmkkjlfnobciaaGreatDoor
open Go Go.RowKit
set_option maxRecDepth 100000
set_option linter.all false
variable {H : Hp} {K : AV → Hp → Prop}
abbrev strO (zs : List Int) (k : Int) : AObj := .row 25 2 [[.lst 1 (zs.map encI), .int .i64 k]] true
/-- the stream lies at s: it has handed out k numbers -/
def Str (H : Hp) (s : Nat) (zs : List Int) (k : Int) : Prop := zs.length ≤ 9223372036854775807 ∧ 0 ≤ k ∧ k ≤ 1099511627776 ∧ H[s]? = some (strO zs k)
theorem Str.lt {s : Nat} {zs : List Int} {k : Int} (h : Str H s zs k) : s < H.length := getElem?_lt h.2.2.2
theorem HOk.str {s : Nat} {zs : List Int} {k : Int} (h : HOk H) : HOk (H.set s (strO zs k)) := HOk.set h (okN_pure (by simp [pureL, AC.pure]) (by simp) _)
theorem Str.app {s : Nat} {zs : List Int} {k : Int} (h : Str H s zs k) (L : Hp) : Str (H ++ L) s zs k := ⟨h.1, h.2.1, h.2.2.1, get_old h.2.2.2 L⟩
theorem Str.set {s : Nat} {zs : List Int} {k k' : Int} (h : Str H s zs k) (h1 : 0 ≤ k') (h2 : k' ≤ 1099511627776) : Str (H.set s (strO zs k')) s zs k' := ⟨h.1, h1, h2, List.getElem?_set_self h.lt⟩
theorem Str.pos {s : Nat} {zs : List Int} {k : Int} (h : Str H s zs k) : 0 ≤ k := h.2.1
theorem below_a (x n : Int) (h1 : 1 ≤ n) (hn : n ≤ 9223372036854775807) (hk : ∀ r : Int, 0 ≤ r → r < n → K (.c (.int .i64 r)) H) : ACalls Tryz.prog 126 [(.c (.int .i64 x)), (.c (.int .i64 n))] H K := by
  have hb : -n < x.tmod n := by have := Int.lt_tmod_of_pos x (b := n) (by omega); omega
  have hc : x.tmod n < n := Int.tmod_lt_of_pos x (by omega)
  have hn1 : ¬n < 1 := by omega
  refine acalls Tryz.func126 rfl (by kernel_rfl) (by simp (disch := first | omega | (simp only [go_sem]; first | done | omega)) only [go_sem]) (fun hH => ?_)
  simp (disch := first | omega | (simp only [go_sem]; first | done | omega)) only [go_sem, hn1]
  repeat' (first | ((first | refine acond_d ?_ ?_ | refine acond_b ?_ ?_ | refine ag_d ?_ ?_ | refine ag_n ?_ ?_ | refine ag_bt ?_ ?_ | refine ag_bf ?_ ?_) <;> intro c <;> try simp (disch := first | omega | (simp only [go_sem]; first | done | omega)) only [go_sem, c]) | ((first | refine w_draw (by kernel_rfl) (by decide +kernel) ?_) <;> try simp (disch := first | omega | (simp only [go_sem]; first | done | omega)) only [go_sem]))
  all_goals exact Ret.same (Nat.le_refl _) (hk _ (by omega) (by omega))
theorem next_a (s : Nat) (zs : List Int) (k n : Int) (hs : Str H s zs k) (h1 : 1 ≤ n) (hn : n ≤ 9223372036854775807)
    (hk : ∀ r : Int, 0 ≤ r → r < n → K (.c (.int .i64 r)) (H.set s (strO zs (k + 1)))) : ACalls Tryz.prog 59 [.c (.ptr (some (s, 0, 0))), (.c (.int .i64 n))] H K := by
  have hlt := hs.lt
  obtain ⟨hz, hk0, hk1, hs⟩ := hs
  by_cases h0 : zs.length = 0
  · refine acalls Tryz.func59 rfl (by kernel_rfl) (by simp (disch := first | omega | (simp only [go_sem]; first | done | omega)) only [go_sem]) (fun hH => ?_)
    simp (disch := first | omega | (simp only [go_sem]; first | done | omega)) only [go_sem, hs, h0]
    repeat' (first | ((first | refine acond_d ?_ ?_ | refine acond_b ?_ ?_ | refine ag_d ?_ ?_ | refine ag_n ?_ ?_ | refine ag_bt ?_ ?_ | refine ag_bf ?_ ?_) <;> intro c <;> try simp (disch := first | omega | (simp only [go_sem]; first | done | omega)) only [go_sem, c]) | ((first | refine w_draw (by kernel_rfl) (by decide +kernel) ?_ | refine below_a _ _ (by omega) (by omega) (fun r _ _ => ?_)) <;> try simp (disch := first | omega | (simp only [go_sem]; first | done | omega)) only [go_sem]))
    exact Ret.same (by simp) (hk _ (by omega) (by omega))
  · obtain ⟨j, hj⟩ : ∃ j : Nat, k % (zs.length : Int) = j := ⟨(k % (zs.length : Int)).toNat, by have := Int.emod_nonneg k (b := (zs.length : Int)) (by omega); omega⟩
    have hjl : j < zs.length := by have := Int.emod_lt_of_pos k (b := (zs.length : Int)) (by omega); omega
    have h0' : ¬ (zs.length : Int) = 0 := by omega
    refine acalls Tryz.func59 rfl (by kernel_rfl) (by simp (disch := first | omega | (simp only [go_sem]; first | done | omega)) only [go_sem]) (fun hH => ?_)
    simp (disch := first | omega | (simp only [go_sem]; first | done | omega)) only [go_sem, hs, h0']
    repeat' (first | ((first | refine acond_d ?_ ?_ | refine acond_b ?_ ?_ | refine ag_d ?_ ?_ | refine ag_n ?_ ?_ | refine ag_bt ?_ ?_ | refine ag_bf ?_ ?_) <;> intro c <;> try simp (disch := first | omega | (simp only [go_sem]; first | done | omega)) only [go_sem, c]) | ((first | refine w_draw (by kernel_rfl) (by decide +kernel) ?_ | refine below_a _ _ (by omega) (by omega) (fun r _ _ => ?_)) <;> try simp (disch := first | omega | (simp only [go_sem]; first | done | omega)) only [go_sem]))
    exact Ret.same (by simp) (hk _ (by omega) (by omega))
theorem range_a (s : Nat) (zs : List Int) (k a b : Int) (hs : Str H s zs k) (ha : -4611686018427387904 ≤ a) (hb : b ≤ 4611686018427387900) (hab : a ≤ b)
    (hk : ∀ r : Int, a ≤ r → r ≤ b → K (.c (.int .i64 r)) (H.set s (strO zs (k + 1)))) : ACalls Tryz.prog 22 [.c (.ptr (some (s, 0, 0))), (.c (.int .i64 a)), (.c (.int .i64 b))] H K := by
  have hab' : ¬b < a := by omega
  refine acalls Tryz.func22 rfl (by kernel_rfl) (by simp (disch := first | omega | (simp only [go_sem]; first | done | omega)) only [go_sem]) (fun hH => ?_)
  simp (disch := first | omega | (simp only [go_sem]; first | done | omega)) only [go_sem, hab']
  repeat' (first | ((first | refine acond_d ?_ ?_ | refine acond_b ?_ ?_ | refine ag_d ?_ ?_ | refine ag_n ?_ ?_ | refine ag_bt ?_ ?_ | refine ag_bf ?_ ?_) <;> intro c <;> try simp (disch := first | omega | (simp only [go_sem]; first | done | omega)) only [go_sem, c]) | ((first | refine w_draw (by kernel_rfl) (by decide +kernel) ?_ | refine next_a s _ _ _ hs (by omega) (by omega) (fun r _ _ => ?_)) <;> try simp (disch := first | omega | (simp only [go_sem]; first | done | omega)) only [go_sem]))
  exact Ret.same (by simp) (hk _ (by omega) (by omega))
theorem flip_a (s : Nat) (zs : List Int) (k n : Int) (hs : Str H s zs k) (h1 : 1 ≤ n) (hn : n ≤ 9223372036854775807)
    (hk : ∀ b : Bool, K (.c (.bool b)) (H.set s (strO zs (k + 1)))) : ACalls Tryz.prog 58 [.c (.ptr (some (s, 0, 0))), (.c (.int .i64 n))] H K := by
  refine acalls Tryz.func58 rfl (by kernel_rfl) (by simp (disch := first | omega | (simp only [go_sem]; first | done | omega)) only [go_sem]) (fun hH => ?_)
  simp (disch := first | omega | (simp only [go_sem]; first | done | omega)) only [go_sem]
  repeat' (first | ((first | refine acond_d ?_ ?_ | refine acond_b ?_ ?_ | refine ag_d ?_ ?_ | refine ag_n ?_ ?_ | refine ag_bt ?_ ?_ | refine ag_bf ?_ ?_) <;> intro c <;> try simp (disch := first | omega | (simp only [go_sem]; first | done | omega)) only [go_sem, c]) | ((first | refine w_draw (by kernel_rfl) (by decide +kernel) ?_ | refine next_a s _ _ _ hs (by omega) (by omega) (fun r _ _ => ?_)) <;> try simp (disch := first | omega | (simp only [go_sem]; first | done | omega)) only [go_sem]))
  exact Ret.same (by simp) (hk _)
theorem pick_a (s : Nat) (zs : List Int) (k : Int) (l : List Int) (hs : Str H s zs k) (h0 : 0 < l.length) (h1 : l.length ≤ 1000)
    (hk : ∀ r : Int, r ∈ l → K (.c (.int .i64 r)) (H.set s (strO zs (k + 1)))) : ACalls Tryz.prog 46 [.c (.ptr (some (s, 0, 0))), .c (.lst 1 (l.map encI))] H K := by
  refine acalls Tryz.func46 rfl (by kernel_rfl) (by simp (disch := first | omega | (simp only [go_sem]; first | done | omega)) only [go_sem]) (fun hH => ?_)
  simp (disch := first | omega | (simp only [go_sem]; first | done | omega)) only [go_sem]
  repeat' (first | ((first | refine acond_d ?_ ?_ | refine acond_b ?_ ?_ | refine ag_d ?_ ?_ | refine ag_n ?_ ?_ | refine ag_bt ?_ ?_ | refine ag_bf ?_ ?_) <;> intro c <;> try simp (disch := first | omega | (simp only [go_sem]; first | done | omega)) only [go_sem, c]) | ((first | refine w_draw (by kernel_rfl) (by decide +kernel) ?_ | refine next_a s _ _ _ hs (by omega) (by omega) (fun r _ _ => ?_)) <;> try simp (disch := first | omega | (simp only [go_sem]; first | done | omega)) only [go_sem]))
  exact Ret.same (by simp) (hk _ (List.getElem_mem _))
theorem pick_lit (s : Nat) (zs : List Int) (k : Int) (l : List Int) {i ty n : Nat} {els : List (List AC)} {own : Bool} (hi : H[i]? = some (.row ty 1 els own)) (he : els = l.map encI) (hn : n = l.length) (hs : Str H s zs k) (hne : i ≠ s) (h0 : 0 < l.length) (h1 : l.length ≤ 1000)
    (hk : ∀ r : Int, r ∈ l → K (.c (.int .i64 r)) ((H.set i .dead).set s (strO zs (k + 1)))) : ACalls Tryz.prog 46 [.c (.ptr (some (s, 0, 0))), .c (.sl (some (i, 0)) n)] H K := by
  subst he hn
  refine ACalls.lit hi (by simp [pureL, encI, AC.pure]) (args' := [.c (.ptr (some (s, 0, 0))), .c (.lst 1 (l.map encI))]) ?_ (pick_a s zs k l ⟨hs.1, hs.2.1, hs.2.2.1, ?_⟩ h0 h1 hk)
  · simp [AV.frz1, AC.frz]
    rw [List.take_of_length_le (by simp)]
  · rw [List.getElem?_set_ne hne]; exact hs.2.2.2
end Go.Proofs.YtkmkkjlfnobciaaGreatDoor
