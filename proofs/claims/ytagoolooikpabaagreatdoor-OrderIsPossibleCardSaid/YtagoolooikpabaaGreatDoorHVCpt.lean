/- Several texts in one: slices, and what follows. No condition. -/
import Derived.Test.YtagoolooikpabaaGreatDoorHVSortS
import Derived.Test.YtagoolooikpabaaGreatDoorHVSmp
import Derived.Test.YtagoolooikpabaaGreatDoorHVStr
set_option linter.all false
namespace Go.Proofs.YtagoolooikpabaaGreatDoor
open Go Go.RowKit
set_option maxRecDepth 100000
set_option maxHeartbeats 1000000
variable {H : Hp} {K : AV → Hp → Prop}
def cplG {α : Type} [DecidableEq α] : α → List α → List α
 | _, [] => []
 | p, y :: t => (if y = p then [] else [y]) ++ cplG y t
def cplF {α : Type} [DecidableEq α] : List α → List α
 | [] => []
 | x :: t => x :: cplG x t
theorem cplG_snoc {α : Type} [DecidableEq α] (y : α) : ∀ (t : List α) (p : α), cplG p (t ++ [y]) = cplG p t ++ (if y = ((p :: t)[t.length]'(by simp)) then [] else [y])
 | [], p => by simp [cplG]
 | z :: t, p => by
  rw [List.cons_append, cplG, cplG_snoc y t z, cplG, List.append_assoc]
  rfl
theorem cplF_succ {α : Type} [DecidableEq α] (l : List α) {j : Nat} (h1 : 1 ≤ j) (h : j < l.length) :
  cplF (l.take (j + 1)) = cplF (l.take j) ++ (if l[j] = (l[j - 1]'(by omega)) then [] else [l[j]]) := by
 obtain ⟨m, rfl⟩ : ∃ m, j = m + 1 := ⟨j - 1, by omega⟩
 cases l with
 | nil => simp at h
 | cons x t =>
  have hm : m < t.length := by simpa using h
  rw [List.take_succ_cons, List.take_succ_eq_append_getElem hm, List.take_succ_cons]
  show x :: cplG x (t.take m ++ [t[m]]) = x :: cplG x (t.take m) ++ _
  rw [cplG_snoc, List.cons_append]
  have e1 : (x :: t.take m)[(t.take m).length]'(by simp) = (x :: t)[m + 1 - 1] := by
   have hl : (t.take m).length = m := by rw [List.length_take]; omega
   have := List.getElem_take (xs := x :: t) (j := m + 1) (i := m) (h := by simp; omega)
   simp only [List.take_succ_cons] at this
   simp only [hl]
   exact this
  rw [e1]
  rfl
theorem cplF_few {α : Type} [DecidableEq α] (l : List α) (h : l.length < 2) : cplF l = l := by
 match l, h with
 | [], _ => rfl
 | [_], _ => rfl
theorem compactSt_a {i n : Nat} (l : List ByteArray) (hi : H[i]? = some (.row 9 1 (l.map encSs) true)) (hn : n = l.length) (hlen : l.length ≤ 1000000)
  (hk : K (.c (.lst 1 ((cplF l).map encSs))) (H.set i .dead)) :
  ACalls Tryz.prog 108 [.c (.sl (some (i, 0)) n)] H K := by
 subst hn
 have hilt := getElem?_lt hi
 refine acalls Tryz.func108 rfl (by kernel_rfl) (by simp (disch := first | omega | (simp only [go_sem]; try omega)) only [go_sem]) (fun hH => ?_)
 simp (disch := first | omega | (simp only [go_sem]; try omega)) only [go_sem]
 by_cases h2 : l.length < 2
 ·rw [cplF_few l h2] at hk
  simp (disch := first | omega | (simp only [go_sem]; try omega)) only [go_sem]
  refine Ret.frzDead hi (pureL_map _ (fun x => by simp [go_sem, AC.pure])) (by simp) (Nat.le_refl _) ?_
  rw [List.take_of_length_le (by simp)]
  exact hk
 simp (disch := first | omega | (simp only [go_sem]; try omega)) only [go_sem]
 refine AWp.loop (H.length) [0] [3] (fun (k : Nat) => 1 ≤ k ∧ k ≤ l.length ∧ cplF (l.take k) = l.take k) (fun (k : Nat) => [(3, (.c (.int .i64 k)))]) (fun (k : Nat) => H) (fun (k : Nat) => l.length - k) (by kernel_rfl) (fun _ => rfl) (by kernel_rfl) (by first | (simp; done) | omega) (by first | (simp; done) | (simp; omega) | omega) kl ?_ (fun k hk1' _ _ => ?_)
 ·refine Next.mk 1 ⟨Nat.le_refl _, by omega, ?_⟩ wk
  exact cplF_few _ (by rw [List.length_take]; omega)
 obtain ⟨k1, k2, k3⟩ := hk1'
 by_cases hlt : k < l.length
 ·have hsu := cplF_succ l k1 hlt
  rw [k3] at hsu
  have hix : ((k : Int) - 1).toNat = k - 1 := by omega
  simp (disch := first | omega | (simp only [go_sem]; try omega)) only [go_sem]
  refine w_draw (by kernel_rfl) (by decide +kernel) ?_
  simp (disch := first | omega | (simp only [go_sem]; try omega)) only [go_sem, hi, hix]
  refine acond_b (fun c => ?_) (fun c => ?_)
  ·-- two that are equal: what follows is moved up
   rw [if_pos (of_decide_eq_true c), List.append_nil] at hsu
   simp (disch := first | omega | (simp only [go_sem]; try omega)) only [go_sem, hi]
   refine AWp.loop (H.length) [0, 4] [5, 3] (fun (s : Nat × List ByteArray) => 1 ≤ s.1 ∧ k + s.1 ≤ l.length ∧ s.2.length = l.length ∧ (cplF (l.take (k + s.1))).length < k + s.1 ∧ s.2.take (cplF (l.take (k + s.1))).length = cplF (l.take (k + s.1)) ∧ s.2.drop (k + s.1 - 1) = l.drop (k + s.1 - 1)) (fun (s : Nat × List ByteArray) => [(5, (.c (.int .i64 (s.1)))), (3, (.c (.int .i64 (((cplF (l.take (k + s.1))).length)))))]) (fun (s : Nat × List ByteArray) => H.set i (.row 9 1 (s.2.map encSs) true)) (fun (s : Nat × List ByteArray) => l.length - s.1) (by kernel_rfl) (fun _ => rfl) (by kernel_rfl) (by first | (simp; done) | omega) (by first | (simp; done) | (simp; omega) | omega) kl ?_ (fun s hs _ _ => ?_)
   ·have hkl : (cplF (l.take (k + 1))).length = k := by rw [hsu, List.length_take]; omega
    refine Next.mk (1, l) ⟨Nat.le_refl _, by dsimp only; omega, rfl, by dsimp only; omega, ?_, rfl⟩ ?_
    ·dsimp only
     rw [hkl]
     exact hsu.symm
    ·dsimp only
     rw [hkl, set_same hi]
     exact wk
   obtain ⟨m, cur⟩ := s
   obtain ⟨s1, s2, s3, s4, s5, s6⟩ := hs
   dsimp only at s1 s2 s3 s4 s5 s6 ⊢
   obtain ⟨g, hg⟩ : ∃ g, g = cplF (l.take (k + m)) := ⟨_, rfl⟩
   rw [← hg] at s4 s5 ⊢
   by_cases hm : k + m < l.length
   ·have hnx := cplF_succ l (show 1 ≤ k + m by omega) hm
    rw [← hg] at hnx
    have hjc : k + m < cur.length := by omega
    have hjc2 : k + m - 1 < cur.length := by omega
    have hc1 : cur[k + m] = l[k + m] := by
     have h1 := congrArg (fun z => z[1]?) s6
     simp only [List.getElem?_drop] at h1
     rw [show k + m - 1 + 1 = k + m by omega, List.getElem?_eq_getElem hjc, List.getElem?_eq_getElem hm] at h1
     exact Option.some.inj h1
    have hc0 : cur[k + m - 1] = l[k + m - 1] := by
     have h1 := congrArg (fun z => z[0]?) s6
     simp only [List.getElem?_drop, Nat.add_zero] at h1
     rw [List.getElem?_eq_getElem hjc2, List.getElem?_eq_getElem (by omega : k + m - 1 < l.length)] at h1
     exact Option.some.inj h1
    have hgc : g.length < cur.length := by omega
    have hc0' : cur[k + ((m : Int) - 1).toNat]'(by omega) = l[k + m - 1] := by
     have e : k + ((m : Int) - 1).toNat = k + m - 1 := by omega
     simp only [e]
     exact hc0
    have hdr : cur.drop (k + m) = l.drop (k + m) := by
     have h1 := congrArg (List.drop 1) s6
     rw [List.drop_drop, List.drop_drop, show k + m - 1 + 1 = k + m by omega] at h1
     exact h1
    simp (disch := first | omega | (simp only [go_sem]; try omega)) only [go_sem]
    refine w_draw (by kernel_rfl) (by decide +kernel) ?_
    simp (disch := first | omega | (simp only [go_sem]; try omega)) only [go_sem, hc1, hc0']
    refine acond_b (fun c => ?_) (fun c => ?_)
    ·rw [if_pos (of_decide_eq_true c), List.append_nil] at hnx
     simp (disch := first | omega | (simp only [go_sem]; try omega)) only [go_sem]
     refine Next.mk (m + 1, cur) ?_ ?_
     ·dsimp only
      rw [← Nat.add_assoc, hnx, show k + m + 1 - 1 = k + m by omega]
      exact ⟨⟨by omega, by omega, s3, by omega, s5, hdr⟩, by omega⟩
     ·dsimp only
      rw [← Nat.add_assoc, hnx]
      exact wk
    ·rw [if_neg (of_decide_eq_false c)] at hnx
     simp (disch := first | omega | (simp only [go_sem]; try omega)) only [go_sem, hc1]
     have hset : (cur.map encSs).set g.length (encSs l[k + m]) = (cur.set g.length l[k + m]).map encSs := by rw [List.map_set]
     simp only [encSs] at hset
     refine Next.mk (m + 1, cur.set g.length l[k + m]) ?_ ?_
     ·dsimp only
      rw [← Nat.add_assoc, hnx, show k + m + 1 - 1 = k + m by omega]
      refine ⟨⟨by omega, by omega, by simpa using s3, by simp; omega, ?_, ?_⟩, by omega⟩
      ·rw [List.length_append, List.length_singleton, List.take_succ_eq_append_getElem (by simpa using hgc), List.getElem_set_self]
       congr 1
       rw [List.take_set_of_le (Nat.le_refl _)]
       exact s5
      ·rw [List.drop_set_of_lt (by omega)]
       exact hdr
     ·dsimp only
      rw [← Nat.add_assoc, hnx, ← hset]
      exact wk
   ·have hjl : k + m = l.length := by omega
    rw [hjl, List.take_length] at hg
    rw [← hg] at hk
    simp (disch := first | omega | (simp only [go_sem]; try omega)) only [go_sem]
    refine aclr_pos _ _ (List.getElem?_set_self hilt) (by omega) rfl (by simp; omega) ?_
    rw [List.set_set, ← List.map_take, s5]
    simp (disch := first | omega | (simp only [go_sem]; try omega)) only [go_sem]
    refine Ret.frzDead (List.getElem?_set_self hilt) (pureL_map _ (fun x => by simp [go_sem, AC.pure])) (by simp) (by simp) ?_
    rw [List.set_set, List.take_of_length_le (by simp)]
    exact hk
  ·rw [if_neg (of_decide_eq_false c)] at hsu
   simp (disch := first | omega | (simp only [go_sem]; try omega)) only [go_sem]
   refine Next.mk (k + 1) ⟨⟨by omega, by omega, ?_⟩, by omega⟩ wk
   rw [hsu, List.take_succ_eq_append_getElem hlt]
 ·have hkl : k = l.length := by omega
  subst hkl
  rw [List.take_length] at k3
  rw [k3] at hk
  simp (disch := first | omega | (simp only [go_sem]; try omega)) only [go_sem]
  refine Ret.frzDead hi (pureL_map _ (fun x => by simp [go_sem, AC.pure])) (by simp) (Nat.le_refl _) ?_
  rw [List.take_of_length_le (by simp)]
  exact hk
end Go.Proofs.YtagoolooikpabaaGreatDoor
namespace Go.Proofs.YtagoolooikpabaaGreatDoor
open Go Go.RowKit
set_option maxRecDepth 100000
set_option maxHeartbeats 1000000
variable {H : Hp} {K : AV → Hp → Prop}
theorem aIf_valZ {c : Prop} {v v' : AV} {J : AV → Hp → Prop} (hc : c) (hv : v = v') (h : J v' H) : aIf c v H J := hv ▸ ⟨hc, h⟩
theorem len64z_a (hk : K (.c (.int .i64 0)) H) : ACalls Tryz.prog 216 [.c (.int .u64 0)] H K := by
 refine acalls Tryz.func216 rfl (by kernel_rfl) (by simp (disch := first | omega | (simp only [go_sem]; try omega)) only [go_sem]) (fun hH => ?_)
 simp (disch := first | omega | (simp only [go_sem]; try omega)) only [go_sem]
 refine aIf_valZ (v' := .c (.int .u8 0)) (by decide +kernel) (congrArg (fun z => AV.c (.int .u8 z)) (by decide +kernel : _ = (0 : Int))) ?_
 simp (disch := first | omega | (simp only [go_sem]; try omega)) only [go_sem]
 exact Ret.same (Nat.le_refl _) hk
theorem len0z_a (hk : K (.c (.int .i64 0)) H) : ACalls Tryz.prog 165 [.c (.int .u64 0)] H K := by
 refine acalls Tryz.func165 rfl (by kernel_rfl) (by simp (disch := first | omega | (simp only [go_sem]; try omega)) only [go_sem]) (fun hH => ?_)
 simp (disch := first | omega | (simp only [go_sem]; try omega)) only [go_sem]
 refine len64z_a ?_
 simp (disch := first | omega | (simp only [go_sem]; try omega)) only [go_sem]
 exact Ret.same (Nat.le_refl _) hk
theorem insNilSs_a (hk : K (.tup []) H) : ACalls Tryz.prog 206 [.c (.sl none 0), (.c (.int .i64 0)), (.c (.int .i64 0))] H K := by
 refine acalls Tryz.func206 rfl (by kernel_rfl) (by simp (disch := first | omega | (simp only [go_sem]; try omega)) only [go_sem]) (fun hH => ?_)
 simp (disch := first | omega | (simp only [go_sem]; try omega)) only [go_sem]
 refine AWp.loop (H.length) [0, 1, 2] [6] (fun (q : Unit) => True) (fun (q : Unit) => [(6, (.c (.int .i64 1)))]) (fun (q : Unit) => H) (fun (q : Unit) => 0) (by kernel_rfl) (fun _ => rfl) (by kernel_rfl) (by first | (simp; done) | omega) (by first | (simp; done) | (simp; omega) | omega) kl ?_ (fun q hq _ _ => ?_)
 ·exact Next.mk () trivial wk
 simp (disch := first | omega | (simp only [go_sem]; try omega)) only [go_sem]
 exact Ret.same (Nat.le_refl _) hk
theorem pdqNilSs_a {l : Nat} (hk : K (.tup []) H) : ACalls Tryz.prog 164 [.c (.sl none 0), (.c (.int .i64 0)), (.c (.int .i64 0)), (.c (.int .i64 l))] H K := by
 refine acallsS Tryz.func164 rfl (by simp (disch := first | omega | (simp only [go_sem]; try omega)) only [go_sem]) (fun hH => ?_)
 (refine SWp.go (by kernel_rfl) ?_; simp (disch := first | omega | (simp only [go_sem]; try omega)) only [go_sem])
 (refine SWp.go (by kernel_rfl) ?_; simp (disch := first | omega | (simp only [go_sem]; try omega)) only [go_sem])
 refine SWp.inB ?_
 refine SWp.loop (H.length) [0] [1, 2, 3, 8, 9] (fun (s : Unit) => True) (fun (s : Unit) => [(1, (.c (.int .i64 0))), (2, (.c (.int .i64 0))), (3, (.c (.int .i64 l))), (8, (.c (.bool true))), (9, (.c (.bool true)))]) (fun (s : Unit) => H) (fun (s : Unit) => 0) (fun _ => rfl) (by kernel_rfl) (by first | (simp; done) | omega) (by first | (simp; done) | (simp; omega) | omega) kl ?_ (fun s _ _ _ => ?_)
 ·exact Next.mk () trivial wk
 refine SWp.inB ?_
 refine SWp.of (by kernel_rfl) ?_
 simp (disch := first | omega | (simp only [go_sem]; try omega)) only [go_sem]
 refine insNilSs_a ?_
 simp (disch := first | omega | (simp only [go_sem]; try omega)) only [go_sem]
 exact Ret.same (by simp) hk
theorem sortNilSs_a (hk : K (.tup []) H) : ACalls Tryz.prog 107 [.c (.sl none 0)] H K := by
 refine acalls Tryz.func107 rfl (by kernel_rfl) (by simp (disch := first | omega | (simp only [go_sem]; try omega)) only [go_sem]) (fun hH => ?_)
 simp (disch := first | omega | (simp only [go_sem]; try omega)) only [go_sem]
 have hw : IntKind.u64.wrap (0 : Int) = (0 : Int) := by decide
 try rw [hw]
 refine len0z_a ?_
 simp (disch := first | omega | (simp only [go_sem]; try omega)) only [go_sem]
 refine pdqNilSs_a (l := 0) ?_
 simp (disch := first | omega | (simp only [go_sem]; try omega)) only [go_sem]
 exact Ret.same (Nat.le_refl _) hk
theorem sortVSs_a (l : List ByteArray) {i : Nat} (hi : H[i]? = some (grO 9 1 (l.map encSs))) (hlen : l.length ≤ 1000000) (hk : K (.tup []) (H.set i (grO 9 1 ((srtS l).map encSs)))) : ACalls Tryz.prog 107 [.c (grV i l)] H K := by
 by_cases h0 : l = []
 ·subst h0
  have e : srtS [] = [] := List.length_eq_zero_iff.1 (by rw [srtS_len]; rfl)
  rw [e, List.map_nil] at hk
  rw [List.map_nil] at hi
  rw [set_same hi] at hk
  exact sortNilSs_a hk
 ·have h1 : srtS l ≠ [] := by intro h; have := srtS_len l; rw [h] at this; exact h0 (List.length_eq_zero_iff.1 this.symm)
  rw [grO_pos _ _ (by simpa using h0)] at hi
  rw [grO_pos _ _ (by simpa using h1)] at hk
  rw [grV_pos _ h0]
  exact sortS_a l hi rfl h0 hlen hk
theorem compactNilSs_a (hk : K (.c (.lst 1 [])) H) : ACalls Tryz.prog 108 [.c (.sl none 0)] H K := by
 refine acalls Tryz.func108 rfl (by kernel_rfl) (by simp (disch := first | omega | (simp only [go_sem]; try omega)) only [go_sem]) (fun hH => ?_)
 simp (disch := first | omega | (simp only [go_sem]; try omega)) only [go_sem]
 refine Ret.nil [1] (Nat.le_refl _) ?_
 exact Ret.same (Nat.le_refl _) hk
theorem compactVSs_a (l : List ByteArray) {i : Nat} (hi : H[i]? = some (grO 9 1 (l.map encSs))) (hlen : l.length ≤ 1000000)
  (hk : K (.c (.lst 1 ((cplF l).map encSs))) (H.set i .dead)) : ACalls Tryz.prog 108 [.c (grV i l)] H K := by
 by_cases h : l = []
 ·subst h
  have hi2 : H[i]? = some AObj.dead := hi
  rw [set_same hi2] at hk
  exact compactNilSs_a hk
 ·have h2 : l.map encSs ≠ [] := by simpa using h
  rw [grO_pos _ _ h2] at hi
  rw [grV_pos _ h]
  exact compactSt_a l hi rfl hlen hk
theorem appSs {i q ty : Nat} {own : Bool} {J : AV → Hp → Prop} (l : List ByteArray) (x : ByteArray) (l2 : List ByteArray) (e : l2 = l ++ [x]) (hi : H[i]? = some (grO 9 1 (l.map encSs))) (hj : H[q]? = some (.row ty 1 [[.str x]] own)) (hb : l.length ≤ 1000000000)
  (h : J (.c (grV H.length l2)) (H.set i .dead ++ [grO 9 1 (l2.map encSs)])) : aBuiltin Tryz.prog .append #[29, 29] [.c (grV i l), .c (.sl (some (q, 0)) 1)] H J := by
 subst e
 exact app_grR (enc := encSs) (e := 9) (sz := 1) (bs := 16) (z := [.str .empty]) l [x] (by kernel_rfl) (by kernel_rfl) (by kernel_rfl) (by kernel_rfl) hi (by rw [hj]; rfl) (by simp) rfl (by decide) (by simp; omega) (by simp; omega) h
end Go.Proofs.YtagoolooikpabaaGreatDoor
