/- Samples compacted: slices.CompactFunc. Condition: what says that two are equal is pure. -/
import Derived.Test.YtebhpfhichdgaaaGreatDoorHVGF
import Derived.Test.YtebhpfhichdgaaaGreatDoorHVGA
namespace Go.Proofs.YtebhpfhichdgaaaGreatDoor
open Go Go.RowKit
set_option maxRecDepth 100000
set_option linter.all false
set_option maxHeartbeats 1000000
variable {H : Hp} {K : AV → Hp → Prop}
def cptG (e : Smp → Smp → Bool) : Smp → List Smp → List Smp
  | _, [] => []
  | p, y :: t => (if e y p = true then [] else [y]) ++ cptG e y t
def compactG (e : Smp → Smp → Bool) : List Smp → List Smp
  | [] => []
  | x :: t => x :: cptG e x t
theorem cptG_snoc (e : Smp → Smp → Bool) (y : Smp) : ∀ (t : List Smp) (p : Smp), cptG e p (t ++ [y]) = cptG e p t ++ (if e y ((p :: t)[t.length]'(by simp)) = true then [] else [y])
  | [], p => by simp [cptG]
  | z :: t, p => by
    rw [List.cons_append, cptG, cptG_snoc e y t z, cptG, List.append_assoc]
    rfl
theorem compactG_succ (e : Smp → Smp → Bool) (l : List Smp) {j : Nat} (h1 : 1 ≤ j) (h : j < l.length) :
    compactG e (l.take (j + 1)) = compactG e (l.take j) ++ (if e l[j] (l[j - 1]'(by omega)) = true then [] else [l[j]]) := by
  obtain ⟨m, rfl⟩ : ∃ m, j = m + 1 := ⟨j - 1, by omega⟩
  cases l with
  | nil => simp at h
  | cons x t =>
    have hm : m < t.length := by simpa using h
    rw [List.take_succ_cons, List.take_succ_eq_append_getElem hm, List.take_succ_cons]
    show x :: cptG e x (t.take m ++ [t[m]]) = x :: cptG e x (t.take m) ++ _
    rw [cptG_snoc, List.cons_append]
    have e1 : (x :: t.take m)[(t.take m).length]'(by simp) = (x :: t)[m + 1 - 1] := by
      have hl : (t.take m).length = m := by rw [List.length_take]; omega
      have := List.getElem_take (xs := x :: t) (j := m + 1) (i := m) (h := by simp; omega)
      simp only [List.take_succ_cons] at this
      simp only [hl]
      exact this
    rw [e1]
    rfl
theorem compactG_few (e : Smp → Smp → Bool) (l : List Smp) (h : l.length < 2) : compactG e l = l := by
  match l, h with
  | [], _ => rfl
  | [_], _ => rfl
structure EqA (f : FuncId) (e : Smp → Smp → Bool) : Prop where
  he : entersB Tryz.prog f = true
  hf : ∀ (x y : Smp) (H : Hp) (K : AV → Hp → Prop), K (.c (.bool (e x y))) H → ACalls Tryz.prog f [.agg (encS x), .agg (encS y)] H K
theorem compactFunc_a {f : FuncId} {e : Smp → Smp → Bool} (hc : EqA f e) {i n : Nat} (l : List Smp) (hi : H[i]? = some (.row 49 3 (l.map encS) true)) (hn : n = l.length) (hlen : l.length ≤ 1000000)
    (hk : K (.c (.lst 3 ((compactG e l).map encS))) (H.set i .dead)) :
    ACalls Tryz.prog 150 [.c (.sl (some (i, 0)) n), .c (.fn f [] [])] H K := by
  subst hn
  have hilt := getElem?_lt hi
  have he := hc.he
  refine acalls Tryz.func150 rfl (by kernel_rfl) (by simp (disch := first | omega | (simp only [go_sem]; first | done | omega)) only [go_sem]) (fun hH => ?_)
  simp (disch := first | omega | (simp only [go_sem]; first | done | omega)) only [go_sem]
  by_cases h2 : l.length < 2
  · rw [compactG_few e l h2] at hk
    simp (disch := first | omega | (simp only [go_sem]; first | done | omega)) only [go_sem]
    refine Ret.frzDead hi (pureL_map _ (fun x => by simp [go_sem, AC.pure])) (by simp) (Nat.le_refl _) ?_
    rw [List.take_of_length_le (by simp)]
    exact hk
  simp (disch := first | omega | (simp only [go_sem]; first | done | omega)) only [go_sem]
  refine AWp.loop (H.length) [0, 1] [5] (fun (k : Nat) => 1 ≤ k ∧ k ≤ l.length ∧ compactG e (l.take k) = l.take k) (fun (k : Nat) => [(5, (.c (.int .i64 k)))]) (fun (k : Nat) => H) (fun (k : Nat) => l.length - k) (by kernel_rfl) (fun _ => rfl) (by kernel_rfl) (by first | (simp; done) | omega) (by first | (simp; done) | (simp; omega) | omega) kl ?_ (fun k hk1' _ _ => ?_)
  · refine Next.mk 1 ⟨Nat.le_refl _, by omega, ?_⟩ wk
    exact compactG_few e _ (by rw [List.length_take]; omega)
  obtain ⟨k1, k2, k3⟩ := hk1'
  by_cases hlt : k < l.length
  · have hsu := compactG_succ e l k1 hlt
    rw [k3] at hsu
    have hix : ((k : Int) - 1).toNat = k - 1 := by omega
    simp (disch := first | omega | (simp only [go_sem]; first | done | omega)) only [go_sem]
    repeat' (first | ((first | refine acond_d ?_ ?_ | refine acond_b ?_ ?_ | refine ag_d ?_ ?_ | refine ag_n ?_ ?_ | refine ag_bt ?_ ?_ | refine ag_bf ?_ ?_) <;> intro c <;> try simp (disch := first | omega | (simp only [go_sem]; first | done | omega)) only [go_sem, c, he, hi, hix]) | ((first | refine w_draw (by kernel_rfl) (by decide +kernel) ?_ | refine hc.hf l[k] (l[k - 1]'(by omega)) _ _ ?_) <;> try simp (disch := first | omega | (simp only [go_sem]; first | done | omega)) only [go_sem, he, hi, hix]))
    · -- two that are equal: what follows is moved up
      rw [if_pos c, List.append_nil] at hsu
      refine AWp.loop (H.length) [0, 1, 6] [7, 5] (fun (s : Nat × List Smp) => 1 ≤ s.1 ∧ k + s.1 ≤ l.length ∧ s.2.length = l.length ∧ (compactG e (l.take (k + s.1))).length < k + s.1 ∧ s.2.take (compactG e (l.take (k + s.1))).length = compactG e (l.take (k + s.1)) ∧ s.2.drop (k + s.1 - 1) = l.drop (k + s.1 - 1)) (fun (s : Nat × List Smp) => [(7, (.c (.int .i64 (s.1)))), (5, (.c (.int .i64 (((compactG e (l.take (k + s.1))).length)))))]) (fun (s : Nat × List Smp) => H.set i (.row 49 3 (s.2.map encS) true)) (fun (s : Nat × List Smp) => l.length - s.1) (by kernel_rfl) (fun _ => rfl) (by kernel_rfl) (by first | (simp; done) | omega) (by first | (simp; done) | (simp; omega) | omega) kl ?_ (fun s hs _ _ => ?_)
      · have hkl : (compactG e (l.take (k + 1))).length = k := by rw [hsu, List.length_take]; omega
        refine Next.mk (1, l) ⟨Nat.le_refl _, by dsimp only; omega, rfl, by dsimp only; omega, ?_, rfl⟩ ?_
        · dsimp only
          rw [hkl]
          exact hsu.symm
        · dsimp only
          rw [hkl, set_same hi]
          exact wk
      obtain ⟨m, cur⟩ := s
      obtain ⟨s1, s2, s3, s4, s5, s6⟩ := hs
      dsimp only at s1 s2 s3 s4 s5 s6 ⊢
      obtain ⟨g, hg⟩ : ∃ g, g = compactG e (l.take (k + m)) := ⟨_, rfl⟩
      rw [← hg] at s4 s5 ⊢
      by_cases hm : k + m < l.length
      · have hnx := compactG_succ e l (show 1 ≤ k + m by omega) hm
        rw [← hg] at hnx
        have hjc : k + m < cur.length := by omega
        have hjc2 : k + m - 1 < cur.length := by omega
        have hc1 : cur[k + m] = l[k + m] := by
          have h1 := congrArg (fun z => z[1]?) s6
          simp only [List.getElem?_drop] at h1
          rw [show k + m - 1 + 1 = k + m by omega, List.getElem?_eq_getElem hjc, List.getElem?_eq_getElem hm] at h1
          exact Option.some.inj h1
        have hc0 : cur[k + m - 1] = l[k + m - 1] := by
          have h1 := congrArg (fun z => z[0]?) s6
          simp only [List.getElem?_drop, Nat.add_zero] at h1
          rw [List.getElem?_eq_getElem hjc2, List.getElem?_eq_getElem (by omega : k + m - 1 < l.length)] at h1
          exact Option.some.inj h1
        have hgc : g.length < cur.length := by omega
        have hc0' : cur[k + ((m : Int) - 1).toNat]'(by omega) = l[k + m - 1] := by
          have e : k + ((m : Int) - 1).toNat = k + m - 1 := by omega
          simp only [e]
          exact hc0
        have hdr : cur.drop (k + m) = l.drop (k + m) := by
          have h1 := congrArg (List.drop 1) s6
          rw [List.drop_drop, List.drop_drop, show k + m - 1 + 1 = k + m by omega] at h1
          exact h1
        simp (disch := first | omega | (simp only [go_sem]; first | done | omega)) only [go_sem]
        repeat' (first | ((first | refine acond_d ?_ ?_ | refine acond_b ?_ ?_ | refine ag_d ?_ ?_ | refine ag_n ?_ ?_ | refine ag_bt ?_ ?_ | refine ag_bf ?_ ?_) <;> intro c <;> try simp (disch := first | omega | (simp only [go_sem]; first | done | omega)) only [go_sem, c, he, hc1, hc0']) | ((first | refine w_draw (by kernel_rfl) (by decide +kernel) ?_ | refine hc.hf l[k + m] (l[k + m - 1]'(by omega)) _ _ ?_) <;> try simp (disch := first | omega | (simp only [go_sem]; first | done | omega)) only [go_sem, he, hc1, hc0']))
        · rw [if_pos c, List.append_nil] at hnx
          refine Next.mk (m + 1, cur) ?_ ?_
          · dsimp only
            rw [← Nat.add_assoc, hnx, show k + m + 1 - 1 = k + m by omega]
            exact ⟨⟨by omega, by omega, s3, by omega, s5, hdr⟩, by omega⟩
          · dsimp only
            rw [← Nat.add_assoc, hnx]
            exact wk
        · rw [if_neg (by simp [c])] at hnx
          have hset : (cur.map encS).set g.length (encS l[k + m]) = (cur.set g.length l[k + m]).map encS := by rw [List.map_set]
          simp only [encS] at hset
          refine Next.mk (m + 1, cur.set g.length l[k + m]) ?_ ?_
          · dsimp only
            rw [← Nat.add_assoc, hnx, show k + m + 1 - 1 = k + m by omega]
            refine ⟨⟨by omega, by omega, by simpa using s3, by simp; omega, ?_, ?_⟩, by omega⟩
            · rw [List.length_append, List.length_singleton, List.take_succ_eq_append_getElem (by simpa using hgc), List.getElem_set_self]
              congr 1
              rw [List.take_set_of_le (Nat.le_refl _)]
              exact s5
            · rw [List.drop_set_of_lt (by omega)]
              exact hdr
          · dsimp only
            rw [← Nat.add_assoc, hnx, ← hset]
            exact wk
      · have hjl : k + m = l.length := by omega
        rw [hjl, List.take_length] at hg
        rw [← hg] at hk
        simp (disch := first | omega | (simp only [go_sem]; first | done | omega)) only [go_sem]
        refine aclr_pos _ _ (List.getElem?_set_self hilt) (by omega) rfl (by simp; omega) ?_
        rw [List.set_set, ← List.map_take, s5]
        simp (disch := first | omega | (simp only [go_sem]; first | done | omega)) only [go_sem]
        refine Ret.frzDead (List.getElem?_set_self hilt) (pureL_map _ (fun x => by simp [go_sem, AC.pure])) (by simp) (by simp) ?_
        rw [List.set_set, List.take_of_length_le (by simp)]
        exact hk
    · rw [if_neg (by simp [c])] at hsu
      refine Next.mk (k + 1) ⟨⟨by omega, by omega, ?_⟩, by omega⟩ wk
      rw [hsu, List.take_succ_eq_append_getElem hlt]
  · have hkl : k = l.length := by omega
    subst hkl
    rw [List.take_length] at k3
    rw [k3] at hk
    simp (disch := first | omega | (simp only [go_sem]; first | done | omega)) only [go_sem]
    refine Ret.frzDead hi (pureL_map _ (fun x => by simp [go_sem, AC.pure])) (by simp) (Nat.le_refl _) ?_
    rw [List.take_of_length_le (by simp)]
    exact hk
theorem compactNil_a {f : FuncId} (hk : K (.c (.lst 3 [])) H) : ACalls Tryz.prog 150 [.c (.sl none 0), .c (.fn f [] [])] H K := by
  refine acalls Tryz.func150 rfl (by kernel_rfl) (by simp (disch := first | omega | (simp only [go_sem]; first | done | omega)) only [go_sem]) (fun hH => ?_)
  simp (disch := first | omega | (simp only [go_sem]; first | done | omega)) only [go_sem]
  refine Ret.nil [3] (Nat.le_refl _) ?_
  exact Ret.same (Nat.le_refl _) hk
theorem compactGrS_a {f : FuncId} {e : Smp → Smp → Bool} (hc : EqA f e) {i : Nat} (l : List Smp) (hi : H[i]? = some (grO 49 3 (l.map encS))) (hlen : l.length ≤ 1000000)
    (hk : K (.c (.lst 3 ((compactG e l).map encS))) (H.set i .dead)) :
    ACalls Tryz.prog 150 [.c (grV i l), .c (.fn f [] [])] H K := by
  by_cases h : l = []
  · subst h
    have hi2 : H[i]? = some AObj.dead := hi
    rw [set_same hi2] at hk
    exact compactNil_a hk
  · have h2 : l.map encS ≠ [] := by simpa using h
    rw [grO_pos _ _ h2] at hi
    rw [grV_pos _ h]
    exact compactFunc_a hc l hi rfl hlen hk
theorem grV_len {α β : Type} (i : Nat) (l : List α) (m : List β) (h : l.length = m.length) : grV i l = grV i m := by
  cases l with
  | nil => cases m with
    | nil => rfl
    | cons y ys => cases h
  | cons x xs => cases m with
    | nil => cases h
    | cons y ys =>
      show AC.sl (some (i, 0)) (xs.length + 1) = AC.sl (some (i, 0)) (ys.length + 1)
      rw [show xs.length + 1 = ys.length + 1 from h]
theorem compactG_le (e : Smp → Smp → Bool) : ∀ l : List Smp, (compactG e l).length ≤ l.length
  | [] => Nat.le_refl _
  | x :: t => by
    have h : ∀ (t : List Smp) (p : Smp), (cptG e p t).length ≤ t.length := by
      intro t
      induction t with
      | nil => intro p; exact Nat.le_refl _
      | cons y t ih =>
        intro p
        rw [cptG, List.length_append, List.length_cons]
        have := ih y
        split <;> simp <;> omega
    show (cptG e x t).length + 1 ≤ t.length + 1
    have := h t x
    omega
end Go.Proofs.YtebhpfhichdgaaaGreatDoor
