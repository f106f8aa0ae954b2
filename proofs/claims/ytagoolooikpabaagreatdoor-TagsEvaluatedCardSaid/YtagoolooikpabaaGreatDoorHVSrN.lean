/- The sorted names of the trees of calculated tags; the sorted keys of a map of bools. Condition: the calculated tags are right. -/
import Derived.Test.YtagoolooikpabaaGreatDoorHVTre
set_option linter.all false
namespace Go.Proofs.YtagoolooikpabaaGreatDoor
open Go Go.RowKit
set_option maxRecDepth 100000
set_option maxHeartbeats 4000000
variable {H : Hp} {K : AV → Hp → Prop}
theorem ordB_lt : ∀ a b : List UInt8, Lib.compareBytes a b < 0 → a < b
 | [], [] => by simp [Lib.compareBytes]
 | [], _ :: _ => by simp [Lib.compareBytes]
 | _ :: _, [] => by simp [Lib.compareBytes]
 | x :: xs, y :: ys => by
  have ih := ordB_lt xs ys
  intro h
  unfold Lib.compareBytes at h
  rw [List.cons_lt_cons_iff]
  grind
theorem srtS_same {L M : List ByteArray} (hL : L.Nodup) (hM : M.Pairwise ltN) (h : ∀ x, x ∈ L ↔ x ∈ M) : srtS L = M := by
 have hp : L.Perm M := (List.perm_ext_iff_of_nodup hL (rise_nodup hM)).2 h
 unfold srtS
 have e : (L.map toL).mergeSort (fun x y => decide (x ≤ y)) = (M.map toL).mergeSort (fun x y => decide (x ≤ y)) := mergeSort_of_perm (hp.map toL)
 rw [e, List.mergeSort_of_pairwise, List.map_map]
 ·exact List.map_id'' (fun x => rfl) _
 ·rw [List.pairwise_map]
  exact hM.imp fun h => decide_eq_true (List.le_of_lt (ordB_lt _ _ h))
theorem mkeysT_a (i : Nat) (hk : K (.c (.fn 163 [] [(H.length, 0, 0)])) (H ++ [.row 76 1 [[.map (some i)]] true])) : ACalls Tryz.prog 100 [.c (.map (some i))] H K := by
 refine acalls Tryz.func100 rfl kRf gT (fun hH => ?_)
 refine gO ?_
 exact Ret.same sMp hk
theorem namesT_a {cs : List Cal} (hF : clF cs = 0) (hs : ∀ x ∈ cs, x.fine) {i j t : Nat} (hi : H[i]? = some (trO cs)) (hj : H[j]? = some (.row t 1 [[.map (some i)]] true))
  (hk : K (.c (.lst 1 ((nmC cs).map encSs))) H) : ACalls Tryz.prog 55 [.c (.fn 163 [] [(j, 0, 0)])] H K := by
 have hr := nmC_rise hF
 have hl := (clF_ok hF).1
 have hi2 : H[i]? = some (.map (List.range cs.length) (cs.length + 1) (cs.map fun x => (.c (.str x.tg), .c (.fp (encNd (exC x)))))) := by
  rw [hi]
  unfold trO mpO
  rw [List.length_map]
  rfl
 have hsr : srtS (cs.map (·.tg)) = nmC cs := srtS_same (rise_nodup hr) hr (fun x => Iff.rfl)
 refine ACalls.postR (keyzT_a cs (·.tg) (fun x => .c (.fp (encNd (exC x)))) (List.range cs.length) cs.length i j t hi2 hj List.nodup_range (fun b hb => by simpa using hb) (rise_nodup hr) (fun x hx => by have := (hs x hx).1; omega) oMg (K := fun v G => v = .c (grV H.length (srtS (cs.map (·.tg)))) ∧ G = H ++ [grO 9 1 ((srtS (cs.map (·.tg))).map encSs)]) ⟨rfl, rfl⟩) ?_
 rintro hH _ _ ⟨rfl, rfl⟩
 rw [hsr]
 exact Ret.frzGr 0 hH lRf rfl (pureL_map _ pUr) (map_grV _ _ _).symm hk
def eHt (x : ByteArray) : AV × AV := (.c (.str x), .c (.bool true))
def htO (l : List ByteArray) : AObj := mpO (l.map eHt)
theorem htO_okN (l : List ByteArray) (n : Nat) : (htO l).okN n := by
 intro p hp
 obtain ⟨x, _, rfl⟩ := List.mem_map.1 hp
 exact ⟨trivial, trivial⟩
attribute [simp] htO_okN
@[go_sem] theorem mapK_ht : mapK Tryz.prog 82 = some 9 := kRf
@[go_sem] theorem mapZ_ht : (mapE Tryz.prog 82).bind (zeroA Tryz.prog) = some (.c (.bool false)) := kRf
theorem get_ht (t : ByteArray) (l : List ByteArray) : mapGet Tryz.prog 9 (.c (.str t)) (some (.c (.bool false))) (l.map eHt) = some ((.c (.bool (decide (t ∈ l)))), decide (t ∈ l)) := by
 rw [get_of (e := eHt) (p := fun x => decide (t = x)) kRf (findA_str t (fun x => x) (fun _ => (.c (.bool true))) l)]
 by_cases h : t ∈ l
 ·cases hf : l.find? (fun x => decide (t = x)) with
  | none => exact absurd (List.find?_eq_none.1 hf t h) sMp
  | some y => simp [h]; rfl
 ·have hf : l.find? (fun x => decide (t = x)) = none := by
   rw [List.find?_eq_none]
   intro x hx e
   simp only [decide_eq_true_eq] at e
   exact h (e ▸ hx)
  rw [hf]
  simp [h]
theorem put_ht {t : ByteArray} {l : List ByteArray} (h : t ∉ l) : mapPut Tryz.prog 9 (.c (.str t)) (.c (.bool true)) (l.map eHt) = some ((l ++ [t]).map eHt) := by
 have hn : l.findIdx? (fun x => decide (t = x)) = none := by
  rw [List.findIdx?_eq_none_iff]
  intro x hx
  simp only [decide_eq_false_iff_not]
  rintro rfl
  exact h hx
 have := put_of (e := eHt) (p := fun x => decide (t = x)) (x := t) kRf (findA_str t (fun x => x) (fun _ => (.c (.bool true))) l) (l := l) (P := Tryz.prog) (kt := 9) rfl
 unfold upsert at this
 rw [hn] at this
 exact this
end Go.Proofs.YtagoolooikpabaaGreatDoor
