/- Arrivals that are the first of their packet: the program's answer. Condition: at most a million. -/
import Derived.Test.YtnodfnjmhcjnfaaGreatDoorHVArrM
namespace Go.Proofs.YtnodfnjmhcjnfaaGreatDoor
open Go Go.RowKit
set_option maxRecDepth 100000
set_option linter.all false
set_option maxHeartbeats 1000000
variable {H : Hp} {K : AV → Hp → Prop}
def encSn (x : ByteArray × Int) : AV × AV := (.agg [.str x.1, .int .i64 x.2], .c (.bool true))
def cfN (S : List (ByteArray × Int)) (x : Arr) : Option (ByteArray × Int) := S.find? fun y => decide (x.nd = y.1) && decide (x.p.n = y.2)
def addK (S : List (ByteArray × Int)) (x : Arr) : List (ByteArray × Int) := if (cfN S x).isSome = true then S else S ++ [(x.nd, x.p.n)]
def Seen (S : List (ByteArray × Int)) (pre : List Arr) : Prop := ∀ x, (cfN S x).isSome = pre.any (fun b => sameK x b)
theorem seen_nil : Seen [] [] := fun x => rfl
theorem seen_next {S : List (ByteArray × Int)} {pre : List Arr} (h : Seen S pre) (x : Arr) : Seen (addK S x) (pre ++ [x]) := by
  intro z
  rw [List.any_append, List.any_cons, List.any_nil, Bool.or_false, ← h z]
  unfold addK
  by_cases hx : (cfN S x).isSome = true
  · rw [if_pos hx]
    cases hz : sameK z x with
    | false => rw [Bool.or_false]
    | true =>
      rw [Bool.or_true, h z, List.any_eq_true]
      rw [h x, List.any_eq_true] at hx
      obtain ⟨b, hb, e⟩ := hx
      have e := sameK_iff.1 e
      have hz := sameK_iff.1 hz
      exact ⟨b, hb, sameK_iff.2 ⟨hz.1.trans e.1, hz.2.trans e.2⟩⟩
  · rw [if_neg hx]
    unfold cfN
    rw [List.find?_append, Option.isSome_or]
    congr 1
    unfold sameK
    cases hd : decide (z.nd = x.nd) && decide (z.p.n = x.p.n) with
    | true => rw [List.find?_cons_of_pos (by simpa using hd)]; rfl
    | false => rw [List.find?_cons_of_neg (by simp [hd])]; rfl
@[go_sem] theorem mapK_sn : mapK Tryz.prog 296 = some 298 := (by kernel_rfl)
@[go_sem] theorem mapZ_sn : (mapE Tryz.prog 296).bind (zeroA Tryz.prog) = some (.c (.bool false)) := (by kernel_rfl)
theorem look_seen (x : Arr) (S : List (ByteArray × Int)) (ht : keyT Tryz.prog 298 (.agg [.str x.nd, .int .i64 x.p.n]) = true) : mapGet Tryz.prog 298 (.agg [.str x.nd, .int .i64 x.p.n]) (some (.c (.bool false))) (S.map encSn) = some (.c (.bool (cfN S x).isSome), (cfN S x).isSome) := by
  rw [get_of (z := .c (.bool false)) (e := encSn) (p := fun y => decide (x.nd = y.1) && decide (x.p.n = y.2)) ht (findA_si fields_sp x.nd x.p.n (fun y : ByteArray × Int => y.1) (fun y : ByteArray × Int => y.2) (fun _ : ByteArray × Int => .c (.bool true)) S)]
  unfold cfN
  cases List.find? (fun y : ByteArray × Int => decide (x.nd = y.1) && decide (x.p.n = y.2)) S <;> rfl
theorem put_seen (x : Arr) (S : List (ByteArray × Int)) (ht : keyT Tryz.prog 298 (.agg [.str x.nd, .int .i64 x.p.n]) = true) : mapPut Tryz.prog 298 (.agg [.str x.nd, .int .i64 x.p.n]) (.c (.bool true)) (S.map encSn) = some ((addK S x).map encSn) := by
  have h1 := put_of (P := Tryz.prog) (e := encSn) (p := fun y => decide (x.nd = y.1) && decide (x.p.n = y.2)) (x := (x.nd, x.p.n)) (l := S) ht (findA_si fields_sp x.nd x.p.n (fun y : ByteArray × Int => y.1) (fun y : ByteArray × Int => y.2) (fun _ : ByteArray × Int => .c (.bool true)) S) rfl
  have h2 : upsert (fun y : ByteArray × Int => decide (x.nd = y.1) && decide (x.p.n = y.2)) (x.nd, x.p.n) S = addK S x := by
    unfold addK
    cases hf : cfN S x with
    | none =>
      unfold upsert
      rw [List.findIdx?_eq_none_iff.2 (by
        intro y hy
        have := List.find?_eq_none.1 hf y hy
        simpa using this)]
      rfl
    | some y =>
      have hy := List.find?_some hf
      simp only [Bool.and_eq_true, decide_eq_true_eq] at hy
      have : y = (x.nd, x.p.n) := Prod.ext hy.1.symm hy.2.symm
      subst this
      rw [upsert_same hf]
      rfl
  rw [h2] at h1
  exact h1
theorem okN_seen (S : List (ByteArray × Int)) (n : Nat) : (mpO (S.map encSn)).okN n := by
  unfold mpO AObj.okN
  intro p hp
  obtain ⟨x, _, rfl⟩ := List.mem_map.1 hp
  refine ⟨?_, trivial⟩
  intro c hc; simp at hc; rcases hc with rfl | rfl <;> trivial
@[go_sem] def encBo (b : Bool) : List AC := [.bool b]
def fsP (l : List Arr) (k : Nat) : List Bool := (List.range l.length).map fun i => decide (i < k) && !isD l i
def fsF (l : List Arr) : List Bool := (List.range l.length).map fun i => !isD l i
theorem fsP_len (l : List Arr) (k : Nat) : (fsP l k).length = l.length := by unfold fsP; rw [List.length_map, List.length_range]
theorem fsP_zero (l : List Arr) : (fsP l 0).map encBo = List.replicate l.length [.bool false] := by
  unfold fsP
  rw [List.map_map, List.eq_replicate_iff]
  refine ⟨by simp, fun b hb => ?_⟩
  obtain ⟨i, _, rfl⟩ := List.mem_map.1 hb
  simp [encBo]
theorem fsP_all (l : List Arr) : fsP l l.length = fsF l := by
  unfold fsP fsF
  refine List.map_congr_left fun i hi => ?_
  rw [List.mem_range] at hi
  simp [hi]
theorem fsP_get (l : List Arr) (k i : Nat) (h : i < (fsP l k).length) : (fsP l k)[i] = (decide (i < k) && !isD l i) := by
  simp [fsP]
theorem fsP_next (l : List Arr) {k : Nat} (h : k < l.length) : (fsP l k).set k (!isD l k) = fsP l (k + 1) := by
  apply List.ext_getElem
  · rw [List.length_set, fsP_len, fsP_len]
  · intro i h1 h2
    rw [List.getElem_set, fsP_get, fsP_get]
    by_cases e : k = i
    · subst e; simp
    · rw [if_neg e]
      congr 1
      exact decide_eq_decide.2 (by omega)
theorem firsts_a (l : List Arr) (hl : l.length ≤ 1000000) (hk : K (.c (.lst 1 ((fsF l).map encBo))) H) : ACalls Tryz.prog 148 [.c (.lst 7 (l.map encAr))] H K := by
  refine acalls Tryz.func148 rfl (by kernel_rfl) (by simp (disch := first | omega | (simp only [go_sem]; first | done | omega)) only [go_sem]) (fun hH => ?_)
  simp (disch := first | omega | (simp only [go_sem]; first | done | omega)) only [go_sem]
  refine AWp.loop (H.length + 2) [3, 4, 12, 13] [14] (fun (q : Nat × List (ByteArray × Int)) => q.1 ≤ l.length ∧ Seen q.2 (l.take q.1)) (fun (q : Nat × List (ByteArray × Int)) => [(14, (.c (.int .i64 (q.1))))]) (fun (q : Nat × List (ByteArray × Int)) => H ++ [mpO (q.2.map encSn), .row 4 1 ((fsP l q.1).map encBo) true]) (fun (q : Nat × List (ByteArray × Int)) => l.length - q.1) (by kernel_rfl) (fun _ => rfl) (by kernel_rfl) (by first | (simp; done) | omega) (by first | (simp; done) | (simp; omega) | omega) kl ?_ (fun q hq _ _ => ?_)
  · refine Next.mk (0, []) ⟨Nat.zero_le _, seen_nil⟩ ?_
    rw [fsP_zero]
    exact wk
  obtain ⟨k, S⟩ := q
  obtain ⟨q1, q2⟩ := hq
  dsimp only at q1 q2 ⊢
  by_cases hlt : k < l.length
  · obtain ⟨x, hx⟩ : ∃ x, x = l[k] := ⟨_, rfl⟩
    have htk : l.take (k + 1) = l.take k ++ [x] := by rw [List.take_succ_eq_append_getElem hlt, ← hx]
    have hd : (cfN S x).isSome = isD l k := by rw [q2 x]; unfold isD; rw [List.getElem?_eq_getElem hlt, hx]
    have hnx := fsP_next l hlt
    have hln := fsP_len l k
    have hsn := seen_next q2 x
    rw [← htk] at hsn
    have hlk := look_seen x S (by kernel_rfl)
    have hpt := put_seen x S (by kernel_rfl)
    rw [hd] at hlk
    generalize fsP l k = fs at *
    simp (disch := first | omega | (simp only [go_sem]; first | done | omega)) only [go_sem, hlt, ← hx]
    refine look_mp (by kernel_rfl) hlk rfl ?_
    simp (disch := first | omega | (simp only [go_sem]; first | done | omega)) only [go_sem, hln, hlt]
    refine mup_mp (by kernel_rfl) hpt ?_
    simp (disch := first | omega | (simp only [go_sem]; first | done | omega)) only [go_sem]
    refine Next.mk (k + 1, addK S x) ⟨⟨by dsimp only; omega, hsn⟩, by dsimp only; omega⟩ ?_
    dsimp only
    rw [← hnx, List.map_set]
    refine WkL.keepL hH rfl (by simp) rfl ?_ ?_
    · intro o ho
      simp only [List.mem_cons, List.not_mem_nil, or_false] at ho
      rcases ho with rfl | rfl
      · exact okN_seen _ _
      · rw [← List.map_set]
        exact okN_map (enc := encBo) (fun x => by simp [encBo, AC.pure])
    · intro v hv
      simp only [newV, List.map_cons, List.map_nil, List.mem_cons, List.not_mem_nil, or_false] at hv
      subst hv
      trivial
  · have hkl : k = l.length := by omega
    subst hkl
    simp (disch := first | omega | (simp only [go_sem]; first | done | omega)) only [go_sem]
    rw [fsP_all]
    exact Ret.frzAt 1 hH (by omega) hk rfl (pureL_map _ (fun x => by simp [encBo, AC.pure])) (by simp [AV.ok, AV.ok1, AC.ok]) (by simp [AV.frz, AV.frz1, AC.frz, fsF]; rw [List.take_of_length_le (by simp)])
end Go.Proofs.YtnodfnjmhcjnfaaGreatDoor
