/- Tags of expressions in a row of their own; elements of such a row taken out. No condition. -/
import Derived.Test.YtagoolooikpabaaGreatDoorHVTgs
set_option linter.all false
namespace Go.Proofs.YtagoolooikpabaaGreatDoor
open Go Go.RowKit
set_option maxRecDepth 100000
set_option maxHeartbeats 2000000
section
variable {H : Hp} {K : AV → Hp → Prop}
theorem compactOTg_a {i n : Nat} (l : List ByteArray) (hi : H[i]? = some (.row 9 1 (l.map encSs) true)) (hn : n = l.length) (hlen : l.length ≤ 1000000)
  (hk : K (.c (.sl (some (i, 0)) (cplF l).length)) (H.set i (.row 9 1 ((cplF l).map encSs) true))) :
  ACalls Tryz.prog 108 [.c (.sl (some (i, 0)) n)] H K := by
 subst hn
 have hilt := getElem?_lt hi
 refine acalls Tryz.func108 rfl (by kernel_rfl) (by simp (disch := first | omega | (simp only [go_sem]; try omega)) only [go_sem]) (fun hH => ?_)
 simp (disch := first | omega | (simp only [go_sem]; try omega)) only [go_sem]
 by_cases h2 : l.length < 2
 ·rw [cplF_few l h2, set_same hi] at hk
  simp (disch := first | omega | (simp only [go_sem]; try omega)) only [go_sem]
  exact Ret.same (Nat.le_refl _) hk
 simp (disch := first | omega | (simp only [go_sem]; try omega)) only [go_sem]
 refine AWp.loop (H.length) [0] [3] (fun (k : Nat) => 1 ≤ k ∧ k ≤ l.length ∧ cplF (l.take k) = l.take k) (fun (k : Nat) => [(3, (.c (.int .i64 k)))]) (fun (k : Nat) => H) (fun (k : Nat) => l.length - k) (by kernel_rfl) (fun _ => rfl) (by kernel_rfl) (by first | (simp; done) | omega) (by first | (simp; done) | (simp; omega) | omega) kl ?_ (fun k hk1' _ _ => ?_)
 ·refine Next.mk 1 ⟨Nat.le_refl _, by omega, ?_⟩ wk
  exact cplF_few _ (by rw [List.length_take]; omega)
 obtain ⟨k1, k2, k3⟩ := hk1'
 by_cases hlt : k < l.length
 ·have hsu := cplF_succ l k1 hlt
  rw [k3] at hsu
  have hix : ((k : Int) - 1).toNat = k - 1 := by omega
  simp (disch := first | omega | (simp only [go_sem]; try omega)) only [go_sem]
  refine w_draw (by kernel_rfl) (by decide +kernel) ?_
  simp (disch := first | omega | (simp only [go_sem]; try omega)) only [go_sem, hi, hix]
  refine acond_b (fun c => ?_) (fun c => ?_)
  ·-- two that are equal: what follows is moved up
   rw [if_pos (of_decide_eq_true c), List.append_nil] at hsu
   simp (disch := first | omega | (simp only [go_sem]; try omega)) only [go_sem, hi]
   refine AWp.loop (H.length) [0, 4] [5, 3] (fun (s : Nat × List ByteArray) => 1 ≤ s.1 ∧ k + s.1 ≤ l.length ∧ s.2.length = l.length ∧ (cplF (l.take (k + s.1))).length < k + s.1 ∧ s.2.take (cplF (l.take (k + s.1))).length = cplF (l.take (k + s.1)) ∧ s.2.drop (k + s.1 - 1) = l.drop (k + s.1 - 1)) (fun (s : Nat × List ByteArray) => [(5, (.c (.int .i64 (s.1)))), (3, (.c (.int .i64 (((cplF (l.take (k + s.1))).length)))))]) (fun (s : Nat × List ByteArray) => H.set i (.row 9 1 (s.2.map encSs) true)) (fun (s : Nat × List ByteArray) => l.length - s.1) (by kernel_rfl) (fun _ => rfl) (by kernel_rfl) (by first | (simp; done) | omega) (by first | (simp; done) | (simp; omega) | omega) kl ?_ (fun s hs _ _ => ?_)
   ·have hkl : (cplF (l.take (k + 1))).length = k := by rw [hsu, List.length_take]; omega
    refine Next.mk (1, l) ⟨Nat.le_refl _, by dsimp only; omega, rfl, by dsimp only; omega, ?_, rfl⟩ ?_
    ·dsimp only
     rw [hkl]
     exact hsu.symm
    ·dsimp only
     rw [hkl, set_same hi]
     exact wk
   obtain ⟨m, cur⟩ := s
   obtain ⟨s1, s2, s3, s4, s5, s6⟩ := hs
   dsimp only at s1 s2 s3 s4 s5 s6 ⊢
   obtain ⟨g, hg⟩ : ∃ g, g = cplF (l.take (k + m)) := ⟨_, rfl⟩
   rw [← hg] at s4 s5 ⊢
   by_cases hm : k + m < l.length
   ·have hnx := cplF_succ l (show 1 ≤ k + m by omega) hm
    rw [← hg] at hnx
    have hjc : k + m < cur.length := by omega
    have hjc2 : k + m - 1 < cur.length := by omega
    have hc1 : cur[k + m] = l[k + m] := by
     have h1 := congrArg (fun z => z[1]?) s6
     simp only [List.getElem?_drop] at h1
     rw [show k + m - 1 + 1 = k + m by omega, List.getElem?_eq_getElem hjc, List.getElem?_eq_getElem hm] at h1
     exact Option.some.inj h1
    have hc0 : cur[k + m - 1] = l[k + m - 1] := by
     have h1 := congrArg (fun z => z[0]?) s6
     simp only [List.getElem?_drop, Nat.add_zero] at h1
     rw [List.getElem?_eq_getElem hjc2, List.getElem?_eq_getElem (by omega : k + m - 1 < l.length)] at h1
     exact Option.some.inj h1
    have hgc : g.length < cur.length := by omega
    have hc0' : cur[k + ((m : Int) - 1).toNat]'(by omega) = l[k + m - 1] := by
     have e : k + ((m : Int) - 1).toNat = k + m - 1 := by omega
     simp only [e]
     exact hc0
    have hdr : cur.drop (k + m) = l.drop (k + m) := by
     have h1 := congrArg (List.drop 1) s6
     rw [List.drop_drop, List.drop_drop, show k + m - 1 + 1 = k + m by omega] at h1
     exact h1
    simp (disch := first | omega | (simp only [go_sem]; try omega)) only [go_sem]
    refine w_draw (by kernel_rfl) (by decide +kernel) ?_
    simp (disch := first | omega | (simp only [go_sem]; try omega)) only [go_sem, hc1, hc0']
    refine acond_b (fun c => ?_) (fun c => ?_)
    ·rw [if_pos (of_decide_eq_true c), List.append_nil] at hnx
     simp (disch := first | omega | (simp only [go_sem]; try omega)) only [go_sem]
     refine Next.mk (m + 1, cur) ?_ ?_
     ·dsimp only
      rw [← Nat.add_assoc, hnx, show k + m + 1 - 1 = k + m by omega]
      exact ⟨⟨by omega, by omega, s3, by omega, s5, hdr⟩, by omega⟩
     ·dsimp only
      rw [← Nat.add_assoc, hnx]
      exact wk
    ·rw [if_neg (of_decide_eq_false c)] at hnx
     simp (disch := first | omega | (simp only [go_sem]; try omega)) only [go_sem, hc1]
     have hset : (cur.map encSs).set g.length (encSs l[k + m]) = (cur.set g.length l[k + m]).map encSs := by rw [List.map_set]
     simp only [encSs] at hset
     refine Next.mk (m + 1, cur.set g.length l[k + m]) ?_ ?_
     ·dsimp only
      rw [← Nat.add_assoc, hnx, show k + m + 1 - 1 = k + m by omega]
      refine ⟨⟨by omega, by omega, by simpa using s3, by simp; omega, ?_, ?_⟩, by omega⟩
      ·rw [List.length_append, List.length_singleton, List.take_succ_eq_append_getElem (by simpa using hgc), List.getElem_set_self]
       congr 1
       rw [List.take_set_of_le (Nat.le_refl _)]
       exact s5
      ·rw [List.drop_set_of_lt (by omega)]
       exact hdr
     ·dsimp only
      rw [← Nat.add_assoc, hnx, ← hset]
      exact wk
   ·have hjl : k + m = l.length := by omega
    rw [hjl, List.take_length] at hg
    rw [← hg] at hk
    simp (disch := first | omega | (simp only [go_sem]; try omega)) only [go_sem]
    refine aclr_pos _ _ (List.getElem?_set_self hilt) (by omega) rfl (by simp; omega) ?_
    rw [List.set_set, ← List.map_take, s5]
    simp (disch := first | omega | (simp only [go_sem]; try omega)) only [go_sem]
    exact Ret.same (by simp) hk
  ·rw [if_neg (of_decide_eq_false c)] at hsu
   simp (disch := first | omega | (simp only [go_sem]; try omega)) only [go_sem]
   refine Next.mk (k + 1) ⟨⟨by omega, by omega, ?_⟩, by omega⟩ wk
   rw [hsu, List.take_succ_eq_append_getElem hlt]
 ·have hkl : k = l.length := by omega
  subst hkl
  rw [List.take_length] at k3
  rw [k3, set_same hi] at hk
  simp (disch := first | omega | (simp only [go_sem]; try omega)) only [go_sem]
  exact Ret.same (Nat.le_refl _) hk
theorem indexRxTg_a (f : FuncId) (caps : List (Nat × Nat × Nat)) (p : ByteArray → Bool) (he : entersB Tryz.prog f = true) (hc : ∀ (a b c : Nat), (a, b, c) ∈ caps → a < H.length) {i ty n : Nat} {own : Bool} (l : List ByteArray) (hi : H[i]? = some (.row ty 1 (l.map encSs) own)) (hn : n = l.length) (hf : ∀ (x : ByteArray) (K : AV → Hp → Prop), x ∈ l → K (.c (.bool (p x))) H → ACalls Tryz.prog f ((.c (.str x)) :: caps.map fun q => .c (.ptr (some q))) H K) (hlen : l.length ≤ 1099511627776)
  (hk0 : l.any p = false → K (.c (.int .i64 (-1))) H) (hk1 : ∀ k : Nat, (h : k < l.length) → p l[k] = true → (∀ j (h : j < l.length), j < k → p l[j] = false) → K (.c (.int .i64 k)) H) : ACalls Tryz.prog 50 [.c (.sl (some (i, 0)) n), .c (.fn f [] caps)] H K := by
 subst hn
 have hilt := getElem?_lt hi
 refine acalls Tryz.func50 rfl (by kernel_rfl) (by simp (disch := first | omega | (simp only [go_sem]; try omega)) only [go_sem]) (fun hH => ?_)
 simp (disch := first | omega | (simp only [go_sem]; try omega)) only [go_sem]
 refine AWp.loop (H.length) [0, 1, 7] [8] (fun (k : Nat) => k ≤ l.length ∧ ∀ j (h : j < l.length), j < k → p l[j] = false) (fun (k : Nat) => [(8, (.c (.int .i64 k)))]) (fun (k : Nat) => H) (fun (k : Nat) => l.length - k) (by kernel_rfl) (fun _ => rfl) (by kernel_rfl) (by first | (simp; done) | omega) (by first | (simp; done) | (simp; omega) | omega) kl ?_ (fun k hk1' _ _ => ?_)
 ·exact Next.mk 0 (by simp) wk
 obtain ⟨hk1', hk2⟩ := hk1'
 by_cases hlt : k < l.length
 ·simp (disch := first | omega | (simp only [go_sem]; try omega)) only [go_sem, he, hi]
  refine hf l[k] _ (List.getElem_mem hlt) ?_
  simp (disch := first | omega | (simp only [go_sem]; try omega)) only [go_sem]
  refine acond_b (fun c => ?_) (fun c => ?_)
  ·simp (disch := first | omega | (simp only [go_sem]; try omega)) only [go_sem]
   exact Ret.same (Nat.le_refl _) (hk1 k hlt c hk2)
  ·simp (disch := first | omega | (simp only [go_sem]; try omega)) only [go_sem]
   refine Next.mk (k + 1) ⟨⟨by omega, fun j h hj => ?_⟩, by omega⟩ wk
   rcases Nat.lt_or_ge j k with h1 | h1
   ·exact hk2 j h h1
   ·obtain rfl : j = k := by omega
    simpa using c
 ·simp (disch := first | omega | (simp only [go_sem]; try omega)) only [go_sem]
  refine Ret.same (Nat.le_refl _) (hk0 ?_)
  rw [List.any_eq_false]
  intro x hx
  obtain ⟨j, hj, rfl⟩ := List.getElem_of_mem hx
  simpa using hk2 j hj (by omega)
theorem delxTg_a (f : FuncId) (caps : List (Nat × Nat × Nat)) (p : ByteArray → Bool) (he : entersB Tryz.prog f = true) (hc : ∀ (a b c : Nat), (a, b, c) ∈ caps → a < H.length) {i n : Nat} (l : List ByteArray) (hi : H[i]? = some (.row 9 1 (l.map encSs) true)) (hn : n = l.length) (hf : ∀ (G : Hp) (x : ByteArray) (K : AV → Hp → Prop), (∀ a : Nat, a < H.length → a ≠ i → G[a]? = H[a]?) → x ∈ l → K (.c (.bool (p x))) G → ACalls Tryz.prog f ((.c (.str x)) :: caps.map fun q => .c (.ptr (some q))) G K) (hlen : l.length ≤ 1000000)
  (hk : K (.c (.lst 1 ((l.filter (fun x => !p x)).map encSs))) (H.set i .dead)) : ACalls Tryz.prog 103 [.c (.sl (some (i, 0)) n), .c (.fn f [] caps)] H K := by
 subst hn
 have hilt := getElem?_lt hi
 refine acalls Tryz.func103 rfl (by kernel_rfl) (by simp (disch := first | omega | (simp only [go_sem]; try omega)) only [go_sem]) (fun hH => ?_)
 simp (disch := first | omega | (simp only [go_sem]; try omega)) only [go_sem]
 refine indexRxTg_a f caps p he hc l hi rfl (fun x K hx hK => hf H x K (fun _ _ _ => rfl) hx hK) (by omega) (fun h0 => ?_) (fun q hq hpq hbe => ?_)
 ·simp (disch := first | omega | (simp only [go_sem]; try omega)) only [go_sem]
  have e : l.filter (fun x => !p x) = l := by
   rw [List.filter_eq_self]
   intro x hx
   have := List.any_eq_false.1 h0 x hx
   simpa using this
  rw [e] at hk
  refine Ret.frzDead hi (pureL_map _ (fun x => by simp [go_sem, AC.pure])) (by simp) (Nat.le_refl _) ?_
  rw [List.take_of_length_le (by simp)]
  exact hk
 ·have hfq : (l.take q).filter (fun x => !p x) = l.take q := by
   rw [List.filter_eq_self]
   intro x hx
   obtain ⟨j, hj, rfl⟩ := List.getElem_of_mem hx
   rw [List.length_take] at hj
   rw [List.getElem_take, hbe j (by omega) (by omega)]
   rfl
  have hfq1 : (l.take (q + 1)).filter (fun x => !p x) = l.take q := by
   rw [List.take_succ_eq_append_getElem hq, List.filter_append, hfq]
   simp [hpq]
  simp (disch := first | omega | (simp only [go_sem]; try omega)) only [go_sem]
  refine AWp.loop (H.length) [0, 1] [6, 5] (fun (s : Nat × List ByteArray) => q + 1 ≤ s.1 ∧ s.1 ≤ l.length ∧ s.2.length = l.length ∧ ((l.take s.1).filter (fun x => !p x)).length < s.1 ∧ s.2.take ((l.take s.1).filter (fun x => !p x)).length = (l.take s.1).filter (fun x => !p x) ∧ s.2.drop s.1 = l.drop s.1) (fun (s : Nat × List ByteArray) => [(6, (.c (.int .i64 (s.1)))), (5, (.c (.int .i64 (((l.take s.1).filter (fun x => !p x)).length))))]) (fun (s : Nat × List ByteArray) => H.set i (.row 9 1 (s.2.map encSs) true)) (fun (s : Nat × List ByteArray) => l.length - s.1) (by kernel_rfl) (fun _ => rfl) (by kernel_rfl) (by first | (simp; done) | omega) (by first | (simp; done) | (simp; omega) | omega) kl ?_ (fun s hs _ _ => ?_)
  ·refine Next.mk (q + 1, l) ⟨Nat.le_refl _, by dsimp only; omega, rfl, by dsimp only; rw [hfq1, List.length_take]; omega, by dsimp only; rw [hfq1, List.length_take, Nat.min_eq_left (by omega)], rfl⟩ ?_
   have hlq : ((l.take (q + 1)).filter (fun x => !p x)).length = q := by rw [hfq1, List.length_take]; omega
   dsimp only
   rw [hlq, set_same hi]
   exact wk
  obtain ⟨j, cur⟩ := s
  obtain ⟨s1, s2, s3, s4, s5, s6⟩ := hs
  dsimp only at s1 s2 s3 s4 s5 s6
  obtain ⟨g, hg⟩ : ∃ g, g = (l.take j).filter (fun x => !p x) := ⟨_, rfl⟩
  rw [← hg] at s4 s5 ⊢
  have hcaps : ∀ (o : AObj) (M : Hp) (a : Nat), a < H.length → a ≠ i → (H.set i o ++ M)[a]? = H[a]? := fun o M a h1 h2 => by
   rw [List.getElem?_append_left (by rw [List.length_set]; exact h1), List.getElem?_set_ne (Ne.symm h2)]
  by_cases hlt : j < l.length
  ·have hjc : j < cur.length := by omega
   have hcj : cur[j] = l[j] := by
    have h1 := congrArg (fun z => z[0]?) s6
    simp only [List.getElem?_drop, Nat.add_zero] at h1
    rw [List.getElem?_eq_getElem hjc, List.getElem?_eq_getElem hlt] at h1
    exact Option.some.inj h1
   have hgc : g.length < cur.length := by omega
   have hnx : (l.take (j + 1)).filter (fun x => !p x) = g ++ (if p l[j] = true then [] else [l[j]]) := by
    rw [List.take_succ_eq_append_getElem hlt, List.filter_append, ← hg]
    congr 1
    by_cases c : p l[j] = true <;> simp [c]
   have hdr : ∀ v, (cur.set g.length v).drop (j + 1) = l.drop (j + 1) := fun v => by
    rw [List.drop_set_of_lt (by omega), ← List.drop_drop, s6, List.drop_drop]
   have hdr0 : cur.drop (j + 1) = l.drop (j + 1) := by rw [← List.drop_drop, s6, List.drop_drop]
   simp (disch := first | omega | (simp only [go_sem]; try omega)) only [go_sem, he, hcj]
   refine hf _ l[j] _ (fun a h1 h2 => by first | exact hcaps _ _ a h1 h2 | exact List.getElem?_set_ne (Ne.symm h2)) (List.getElem_mem hlt) ?_
   simp (disch := first | omega | (simp only [go_sem]; try omega)) only [go_sem]
   refine acond_b (fun c => ?_) (fun c => ?_)
   ·rw [if_pos c, List.append_nil] at hnx
    simp (disch := first | omega | (simp only [go_sem]; try omega)) only [go_sem]
    refine Next.mk (j + 1, cur) ?_ ?_
    ·dsimp only; rw [hnx]; exact ⟨⟨by omega, by omega, s3, by omega, s5, hdr0⟩, by omega⟩
    ·dsimp only; rw [hnx]; exact wk
   ·rw [if_neg (by simp [c])] at hnx
    simp (disch := first | omega | (simp only [go_sem]; try omega)) only [go_sem]
    have hset : (cur.map encSs).set g.length (encSs l[j]) = (cur.set g.length l[j]).map encSs := by rw [List.map_set]
    simp only [encSs] at hset
    refine Next.mk (j + 1, cur.set g.length l[j]) ?_ ?_
    ·dsimp only
     rw [hnx]
     refine ⟨⟨by omega, by omega, by simpa using s3, by simp; omega, ?_, hdr _⟩, by omega⟩
     rw [List.length_append, List.length_singleton, List.take_succ_eq_append_getElem (by simpa using hgc), List.getElem_set_self]
     congr 1
     rw [List.take_set_of_le (Nat.le_refl _)]
     exact s5
    ·dsimp only
     have hok2 : HOk (H.set i (.row 9 1 ((cur.set g.length l[j]).map encSs) true)) := HOk.set hH (okN_map (fun x => by simp [go_sem, AC.pure]))
     rw [hnx, ← hset]
     rw [← hset] at hok2
     exact wk
  ·have hjl : j = l.length := by omega
   subst hjl
   rw [List.take_length] at hg
   rw [← hg] at hk
   simp (disch := first | omega | (simp only [go_sem]; try omega)) only [go_sem]
   refine aclr_pos _ _ (List.getElem?_set_self hilt) (by omega) rfl (by simp; omega) ?_
   rw [List.set_set, ← List.map_take, s5]
   simp (disch := first | omega | (simp only [go_sem]; try omega)) only [go_sem]
   refine Ret.frzDead (List.getElem?_set_self hilt) (pureL_map _ (fun x => by simp [go_sem, AC.pure])) (by simp) (by simp) ?_
   rw [List.set_set, List.take_of_length_le (by simp)]
   exact hk
theorem indexNxTg_a (f : FuncId) (caps : List (Nat × Nat × Nat)) (hk : K (.c (.int .i64 (-1))) H) : ACalls Tryz.prog 50 [.c (.lst 1 []), .c (.fn f [] caps)] H K := by
 refine acalls Tryz.func50 rfl (by kernel_rfl) (by simp (disch := first | omega | (simp only [go_sem]; try omega)) only [go_sem]) (fun hH => ?_)
 simp (disch := first | omega | (simp only [go_sem]; try omega)) only [go_sem]
 refine AWp.rounds 0 (by kernel_rfl) ?_
 simp (disch := first | omega | (simp only [go_sem]; try omega)) only [go_sem]
 exact Ret.same (Nat.le_refl _) hk
theorem delxNilTg_a (f : FuncId) (caps : List (Nat × Nat × Nat)) (hk : K (.c (.lst 1 [])) H) : ACalls Tryz.prog 103 [.c (.lst 1 []), .c (.fn f [] caps)] H K := by
 refine acalls Tryz.func103 rfl (by kernel_rfl) (by simp (disch := first | omega | (simp only [go_sem]; try omega)) only [go_sem]) (fun hH => ?_)
 simp (disch := first | omega | (simp only [go_sem]; try omega)) only [go_sem]
 refine indexNxTg_a f caps ?_
 simp (disch := first | omega | (simp only [go_sem]; try omega)) only [go_sem]
 exact Ret.same (Nat.le_refl _) hk
theorem delxGrTg_a (f : FuncId) (caps : List (Nat × Nat × Nat)) (p : ByteArray → Bool) (he : entersB Tryz.prog f = true) (hc : ∀ (a b c : Nat), (a, b, c) ∈ caps → a < H.length) {i : Nat} (l : List ByteArray) (hi : H[i]? = some (grO 9 1 (l.map encSs))) (hf : ∀ (G : Hp) (x : ByteArray) (K : AV → Hp → Prop), (∀ a : Nat, a < H.length → a ≠ i → G[a]? = H[a]?) → x ∈ l → K (.c (.bool (p x))) G → ACalls Tryz.prog f ((.c (.str x)) :: caps.map fun q => .c (.ptr (some q))) G K) (hlen : l.length ≤ 1000000)
  (hk : K (.c (.lst 1 ((l.filter (fun x => !p x)).map encSs))) (H.set i .dead)) : ACalls Tryz.prog 103 [.c (grV i l), .c (.fn f [] caps)] H K := by
 cases l with
 | nil =>
  rw [set_same (o := .dead) hi] at hk
  refine ACalls.nilz [1] (by simp) ?_
  exact delxNilTg_a f caps hk
 | cons x xs => exact delxTg_a f caps p he hc (x :: xs) hi (by simp) hf hlen hk
theorem compactVO_a (l : List ByteArray) {i : Nat} (hi : H[i]? = some (grO 9 1 (l.map encSs))) (hlen : l.length ≤ 1000000)
  (hk : K (.c (grV i (cplF l))) (H.set i (grO 9 1 ((cplF l).map encSs)))) : ACalls Tryz.prog 108 [.c (grV i l)] H K := by
 cases l with
 | nil =>
  have hi2 : H[i]? = some AObj.dead := hi
  have hk : K (.c (.sl none 0)) (H.set i .dead) := hk
  rw [set_same hi2] at hk
  refine acalls Tryz.func108 rfl (by kernel_rfl) (by simp (disch := first | omega | (simp only [go_sem]; try omega)) only [go_sem]) (fun hH => ?_)
  simp (disch := first | omega | (simp only [go_sem]; try omega)) only [go_sem]
  exact Ret.same (Nat.le_refl _) hk
 | cons x t =>
  refine compactOTg_a (x :: t) hi rfl hlen ?_
  have hne : cplF (x :: t) ≠ [] := by unfold cplF; simp
  rw [grV_pos _ hne, grO_pos _ _ (by simpa using hne)] at hk
  exact hk
end
theorem Ret.ownAt {H G : Hp} {K : AV → Hp → Prop} {n j : Nat} (l : List ByteArray) (hH : HOk H) (hn : n ≤ H.length) (hj : G[j]? = some (grO 9 1 (l.map encSs))) (hk : K (.c (grV H.length l)) (H ++ [grO 9 1 (l.map encSs)])) : Ret n (.c (grV (H.length + j) l)) (H ++ G) K := by
 cases l with
 | nil => exact Ret.cut hH hn trivial (Ret.pad hn (Ret.same (by simp; omega) hk))
 | cons x t =>
  refine Ret.pick [j] hH hn (L := [.row 9 1 ((x :: t).map encSs) true]) (by simp [hj, grO]) (by simp) (by simp [AObj.pureO, pureL, encSs, AC.pure]) (v' := .c (.sl (some (H.length, 0)) (t.length + 1))) ?_ (by simp [AV.ok, AV.ok1, AC.ok]) hk
  simp [AV.ren, AV.ren1, AC.ren, pickS, grV]
theorem tagsO_a {H : Hp} {K : AV → Hp → Prop} (e : Ex) (hs : szE e ≤ 1000) (he : ExOk e) (hk : K (.c (grV H.length (tagsE e))) (H ++ [grO 9 1 ((tagsE e).map encSs)])) : ACalls Tryz.prog 53 [.c (.fp (encNd e))] H K := by
 unfold tagsE at hk
 refine acalls Tryz.func53 rfl (by kernel_rfl) (by simp (disch := first | omega | (simp only [go_sem]; try omega)) only [go_sem]) (fun hH => ?_)
 simp (disch := first | omega | (simp only [go_sem]; try omega)) only [go_sem]
 refine ACalls.padD ?_
 have e0 : H ++ [AObj.row 29 1 [[.sl none 0]] true] ++ [.dead] = tgS H [] [] := by unfold tgS; simp [grV, grO]
 rw [e0]
 refine each_a e (A := H) (G := []) [] (by simpa using hs) he (fun G hG => ?_)
 rw [List.nil_append]
 have hln := nmsE_len e
 generalize nmsE e = L at *
 have hat : (tgS H L G)[H.length]? = some (.row 29 1 [[grV (H.length + 1 + G.length) L]] true) := by unfold tgS; simp
 obtain ⟨j, hj⟩ : ∃ j, j = H.length + 1 + G.length := ⟨_, rfl⟩
 have hj0 : (tgS H L G)[j]? = some (grO 9 1 (L.map encSs)) := by
  unfold tgS
  rw [hj, List.getElem?_append_right (by omega), show H.length + 1 + G.length - H.length = G.length + 1 by omega, List.getElem?_cons_succ, List.getElem?_append_right (Nat.le_refl _), Nat.sub_self]
  rfl
 have htl := tgS_len H L G
 have hlt := getElem?_lt hj0
 rw [← hj] at hat
 have hat2 : ∀ X : AObj, ((tgS H L G).set j X)[H.length]? = some (.row 29 1 [[grV j L]] true) := fun X => by rw [List.getElem?_set_ne (by omega)]; exact hat
 have hdr : ∀ X : AObj, ∃ G2, (tgS H L G).set j X = H ++ G2 ∧ G2[j - H.length]? = some X := fun X => by
  refine ⟨(.row 29 1 [[grV (H.length + 1 + G.length) L]] true :: (G ++ [grO 9 1 (L.map encSs)])).set (j - H.length) X, ?_, ?_⟩
  ·unfold tgS
   rw [List.set_append_right _ _ (by omega)]
  ·rw [List.getElem?_set_self]
   simp
   omega
 simp (disch := first | omega | (simp only [go_sem]; try omega)) only [go_sem, hat]
 refine sortVSs_a L hj0 (by omega) ?_
 simp (disch := first | omega | (simp only [go_sem]; try omega)) only [go_sem, hat2]
 have hvl : grV j L = grV j (srtS L) := by
  have hSl := srtS_len L
  cases L with
  | nil => rw [List.length_eq_zero_iff.1 hSl]
  | cons x t => rw [grV_pos _ (by simp), grV_pos _ (by intro h; rw [h] at hSl; simp at hSl), hSl]
 rw [hvl]
 refine compactVO_a (srtS L) (List.getElem?_set_self hlt) (by rw [srtS_len]; omega) ?_
 rw [List.set_set]
 obtain ⟨G2, hG2, hG3⟩ := hdr (grO 9 1 ((cplF (srtS L)).map encSs))
 rw [hG2]
 simp (disch := first | omega | (simp only [go_sem]; try omega)) only [go_sem]
 have hq := Ret.ownAt (n := H.length) (cplF (srtS L)) hH (Nat.le_refl _) hG3 hk
 rw [show H.length + (j - H.length) = j by omega] at hq
 exact hq
end Go.Proofs.YtagoolooikpabaaGreatDoor
