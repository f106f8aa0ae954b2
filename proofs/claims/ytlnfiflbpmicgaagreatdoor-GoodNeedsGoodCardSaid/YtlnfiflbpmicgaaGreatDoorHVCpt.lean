/- Several texts in one: slices, and what follows. No condition. -/
import Derived.Test.YtlnfiflbpmicgaaGreatDoorHVSortS
import Derived.Test.YtlnfiflbpmicgaaGreatDoorHVSmp
import Derived.Test.YtlnfiflbpmicgaaGreatDoorHVStr
/- slices.Compact of strings. No condition. -/
namespace Go.Proofs.YtlnfiflbpmicgaaGreatDoor
open Go Go.RowKit
set_option maxRecDepth 100000
set_option linter.all false
set_option maxHeartbeats 1000000
variable {H : Hp} {K : AV → Hp → Prop}
def cplG {α : Type} [DecidableEq α] : α → List α → List α
  | _, [] => []
  | p, y :: t => (if y = p then [] else [y]) ++ cplG y t
def cplF {α : Type} [DecidableEq α] : List α → List α
  | [] => []
  | x :: t => x :: cplG x t
theorem cplG_snoc {α : Type} [DecidableEq α] (y : α) : ∀ (t : List α) (p : α), cplG p (t ++ [y]) = cplG p t ++ (if y = ((p :: t)[t.length]'(by simp)) then [] else [y])
  | [], p => by simp [cplG]
  | z :: t, p => by
    rw [List.cons_append, cplG, cplG_snoc y t z, cplG, List.append_assoc]
    rfl
theorem cplF_succ {α : Type} [DecidableEq α] (l : List α) {j : Nat} (h1 : 1 ≤ j) (h : j < l.length) :
    cplF (l.take (j + 1)) = cplF (l.take j) ++ (if l[j] = (l[j - 1]'(by omega)) then [] else [l[j]]) := by
  obtain ⟨m, rfl⟩ : ∃ m, j = m + 1 := ⟨j - 1, by omega⟩
  cases l with
  | nil => simp at h
  | cons x t =>
    have hm : m < t.length := by simpa using h
    rw [List.take_succ_cons, List.take_succ_eq_append_getElem hm, List.take_succ_cons]
    show x :: cplG x (t.take m ++ [t[m]]) = x :: cplG x (t.take m) ++ _
    rw [cplG_snoc, List.cons_append]
    have e1 : (x :: t.take m)[(t.take m).length]'(by simp) = (x :: t)[m + 1 - 1] := by
      have hl : (t.take m).length = m := by rw [List.length_take]; omega
      have := List.getElem_take (xs := x :: t) (j := m + 1) (i := m) (h := by simp; omega)
      simp only [List.take_succ_cons] at this
      simp only [hl]
      exact this
    rw [e1]
    rfl
theorem cplF_few {α : Type} [DecidableEq α] (l : List α) (h : l.length < 2) : cplF l = l := by
  match l, h with
  | [], _ => rfl
  | [_], _ => rfl
theorem compactSt_a {i n : Nat} (l : List ByteArray) (hi : H[i]? = some (.row 9 1 (l.map encSs) true)) (hn : n = l.length) (hlen : l.length ≤ 1000000)
    (hk : K (.c (.lst 1 ((cplF l).map encSs))) (H.set i .dead)) :
    ACalls Tryz.prog 151 [.c (.sl (some (i, 0)) n)] H K := by
  subst hn
  have hilt := getElem?_lt hi
  refine acalls Tryz.func151 rfl (by kernel_rfl) (by simp (disch := first | omega | (simp only [go_sem]; first | done | omega)) only [go_sem]) (fun hH => ?_)
  simp (disch := first | omega | (simp only [go_sem]; first | done | omega)) only [go_sem]
  by_cases h2 : l.length < 2
  · rw [cplF_few l h2] at hk
    simp (disch := first | omega | (simp only [go_sem]; first | done | omega)) only [go_sem]
    refine Ret.frzDead hi (pureL_map _ (fun x => by simp [go_sem, AC.pure])) (by simp) (Nat.le_refl _) ?_
    rw [List.take_of_length_le (by simp)]
    exact hk
  simp (disch := first | omega | (simp only [go_sem]; first | done | omega)) only [go_sem]
  refine AWp.loop (H.length) [0] [3] (fun (k : Nat) => 1 ≤ k ∧ k ≤ l.length ∧ cplF (l.take k) = l.take k) (fun (k : Nat) => [(3, (.c (.int .i64 k)))]) (fun (k : Nat) => H) (fun (k : Nat) => l.length - k) (by kernel_rfl) (fun _ => rfl) (by kernel_rfl) (by first | (simp; done) | omega) (by first | (simp; done) | (simp; omega) | omega) kl ?_ (fun k hk1' _ _ => ?_)
  · refine Next.mk 1 ⟨Nat.le_refl _, by omega, ?_⟩ wk
    exact cplF_few _ (by rw [List.length_take]; omega)
  obtain ⟨k1, k2, k3⟩ := hk1'
  by_cases hlt : k < l.length
  · have hsu := cplF_succ l k1 hlt
    rw [k3] at hsu
    have hix : ((k : Int) - 1).toNat = k - 1 := by omega
    simp (disch := first | omega | (simp only [go_sem]; first | done | omega)) only [go_sem]
    refine w_draw (by kernel_rfl) (by decide +kernel) ?_
    simp (disch := first | omega | (simp only [go_sem]; first | done | omega)) only [go_sem, hi, hix]
    refine acond_b (fun c => ?_) (fun c => ?_)
    · -- two that are equal: what follows is moved up
      rw [if_pos (of_decide_eq_true c), List.append_nil] at hsu
      simp (disch := first | omega | (simp only [go_sem]; first | done | omega)) only [go_sem, hi]
      refine AWp.loop (H.length) [0, 4] [5, 3] (fun (s : Nat × List ByteArray) => 1 ≤ s.1 ∧ k + s.1 ≤ l.length ∧ s.2.length = l.length ∧ (cplF (l.take (k + s.1))).length < k + s.1 ∧ s.2.take (cplF (l.take (k + s.1))).length = cplF (l.take (k + s.1)) ∧ s.2.drop (k + s.1 - 1) = l.drop (k + s.1 - 1)) (fun (s : Nat × List ByteArray) => [(5, (.c (.int .i64 (s.1)))), (3, (.c (.int .i64 (((cplF (l.take (k + s.1))).length)))))]) (fun (s : Nat × List ByteArray) => H.set i (.row 9 1 (s.2.map encSs) true)) (fun (s : Nat × List ByteArray) => l.length - s.1) (by kernel_rfl) (fun _ => rfl) (by kernel_rfl) (by first | (simp; done) | omega) (by first | (simp; done) | (simp; omega) | omega) kl ?_ (fun s hs _ _ => ?_)
      · have hkl : (cplF (l.take (k + 1))).length = k := by rw [hsu, List.length_take]; omega
        refine Next.mk (1, l) ⟨Nat.le_refl _, by dsimp only; omega, rfl, by dsimp only; omega, ?_, rfl⟩ ?_
        · dsimp only
          rw [hkl]
          exact hsu.symm
        · dsimp only
          rw [hkl, set_same hi]
          exact wk
      obtain ⟨m, cur⟩ := s
      obtain ⟨s1, s2, s3, s4, s5, s6⟩ := hs
      dsimp only at s1 s2 s3 s4 s5 s6 ⊢
      obtain ⟨g, hg⟩ : ∃ g, g = cplF (l.take (k + m)) := ⟨_, rfl⟩
      rw [← hg] at s4 s5 ⊢
      by_cases hm : k + m < l.length
      · have hnx := cplF_succ l (show 1 ≤ k + m by omega) hm
        rw [← hg] at hnx
        have hjc : k + m < cur.length := by omega
        have hjc2 : k + m - 1 < cur.length := by omega
        have hc1 : cur[k + m] = l[k + m] := by
          have h1 := congrArg (fun z => z[1]?) s6
          simp only [List.getElem?_drop] at h1
          rw [show k + m - 1 + 1 = k + m by omega, List.getElem?_eq_getElem hjc, List.getElem?_eq_getElem hm] at h1
          exact Option.some.inj h1
        have hc0 : cur[k + m - 1] = l[k + m - 1] := by
          have h1 := congrArg (fun z => z[0]?) s6
          simp only [List.getElem?_drop, Nat.add_zero] at h1
          rw [List.getElem?_eq_getElem hjc2, List.getElem?_eq_getElem (by omega : k + m - 1 < l.length)] at h1
          exact Option.some.inj h1
        have hgc : g.length < cur.length := by omega
        have hc0' : cur[k + ((m : Int) - 1).toNat]'(by omega) = l[k + m - 1] := by
          have e : k + ((m : Int) - 1).toNat = k + m - 1 := by omega
          simp only [e]
          exact hc0
        have hdr : cur.drop (k + m) = l.drop (k + m) := by
          have h1 := congrArg (List.drop 1) s6
          rw [List.drop_drop, List.drop_drop, show k + m - 1 + 1 = k + m by omega] at h1
          exact h1
        simp (disch := first | omega | (simp only [go_sem]; first | done | omega)) only [go_sem]
        refine w_draw (by kernel_rfl) (by decide +kernel) ?_
        simp (disch := first | omega | (simp only [go_sem]; first | done | omega)) only [go_sem, hc1, hc0']
        refine acond_b (fun c => ?_) (fun c => ?_)
        · rw [if_pos (of_decide_eq_true c), List.append_nil] at hnx
          simp (disch := first | omega | (simp only [go_sem]; first | done | omega)) only [go_sem]
          refine Next.mk (m + 1, cur) ?_ ?_
          · dsimp only
            rw [← Nat.add_assoc, hnx, show k + m + 1 - 1 = k + m by omega]
            exact ⟨⟨by omega, by omega, s3, by omega, s5, hdr⟩, by omega⟩
          · dsimp only
            rw [← Nat.add_assoc, hnx]
            exact wk
        · rw [if_neg (of_decide_eq_false c)] at hnx
          simp (disch := first | omega | (simp only [go_sem]; first | done | omega)) only [go_sem, hc1]
          have hset : (cur.map encSs).set g.length (encSs l[k + m]) = (cur.set g.length l[k + m]).map encSs := by rw [List.map_set]
          simp only [encSs] at hset
          refine Next.mk (m + 1, cur.set g.length l[k + m]) ?_ ?_
          · dsimp only
            rw [← Nat.add_assoc, hnx, show k + m + 1 - 1 = k + m by omega]
            refine ⟨⟨by omega, by omega, by simpa using s3, by simp; omega, ?_, ?_⟩, by omega⟩
            · rw [List.length_append, List.length_singleton, List.take_succ_eq_append_getElem (by simpa using hgc), List.getElem_set_self]
              congr 1
              rw [List.take_set_of_le (Nat.le_refl _)]
              exact s5
            · rw [List.drop_set_of_lt (by omega)]
              exact hdr
          · dsimp only
            rw [← Nat.add_assoc, hnx, ← hset]
            exact wk
      · have hjl : k + m = l.length := by omega
        rw [hjl, List.take_length] at hg
        rw [← hg] at hk
        simp (disch := first | omega | (simp only [go_sem]; first | done | omega)) only [go_sem]
        refine aclr_pos _ _ (List.getElem?_set_self hilt) (by omega) rfl (by simp; omega) ?_
        rw [List.set_set, ← List.map_take, s5]
        simp (disch := first | omega | (simp only [go_sem]; first | done | omega)) only [go_sem]
        refine Ret.frzDead (List.getElem?_set_self hilt) (pureL_map _ (fun x => by simp [go_sem, AC.pure])) (by simp) (by simp) ?_
        rw [List.set_set, List.take_of_length_le (by simp)]
        exact hk
    · rw [if_neg (of_decide_eq_false c)] at hsu
      simp (disch := first | omega | (simp only [go_sem]; first | done | omega)) only [go_sem]
      refine Next.mk (k + 1) ⟨⟨by omega, by omega, ?_⟩, by omega⟩ wk
      rw [hsu, List.take_succ_eq_append_getElem hlt]
  · have hkl : k = l.length := by omega
    subst hkl
    rw [List.take_length] at k3
    rw [k3] at hk
    simp (disch := first | omega | (simp only [go_sem]; first | done | omega)) only [go_sem]
    refine Ret.frzDead hi (pureL_map _ (fun x => by simp [go_sem, AC.pure])) (by simp) (Nat.le_refl _) ?_
    rw [List.take_of_length_le (by simp)]
    exact hk
end Go.Proofs.YtlnfiflbpmicgaaGreatDoor
/- What is sorted and compacted has the same members. No program in sight. -/
namespace Go.Proofs.YtlnfiflbpmicgaaGreatDoor
open Go Go.RowKit
set_option maxRecDepth 100000
set_option linter.all false
set_option maxHeartbeats 1000000
theorem cplG_mem {α : Type} [DecidableEq α] {x : α} : ∀ {t : List α} {p : α}, x ∈ p :: cplG p t ↔ x ∈ p :: t
  | [], p => by simp [cplG]
  | y :: t, p => by
    have ih := cplG_mem (x := x) (t := t) (p := y)
    unfold cplG
    by_cases h : y = p
    · subst h
      simp only [if_true, List.nil_append]
      rw [ih]
      simp
    · rw [if_neg h, List.singleton_append, List.mem_cons, ih, List.mem_cons (a := x) (b := p)]
theorem cplF_mem {α : Type} [DecidableEq α] {x : α} {l : List α} : x ∈ cplF l ↔ x ∈ l := by
  cases l with
  | nil => exact Iff.rfl
  | cons p t => exact cplG_mem
theorem srtS_mem {l : List ByteArray} {x : ByteArray} : x ∈ srtS l ↔ x ∈ l := by
  have h : toL x ∈ (srtS l).map toL ↔ toL x ∈ l.map toL := by rw [srtS_toL]; exact (List.mergeSort_perm _ _).mem_iff
  have hi : ∀ a b : ByteArray, toL a = toL b → a = b := fun a b h => by rw [← ofL_toL a, h, ofL_toL]
  have e : ∀ m : List ByteArray, toL x ∈ m.map toL ↔ x ∈ m := fun m => ⟨fun h => by obtain ⟨y, hy, e⟩ := List.mem_map.1 h; rw [← hi _ _ e]; exact hy, fun h => List.mem_map.2 ⟨x, h, rfl⟩⟩
  rw [e, e] at h
  exact h
end Go.Proofs.YtlnfiflbpmicgaaGreatDoor
