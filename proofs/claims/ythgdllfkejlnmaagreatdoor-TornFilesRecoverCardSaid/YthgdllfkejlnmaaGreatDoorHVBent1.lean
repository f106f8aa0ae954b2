/- slices.Insert and slices.Delete of bytes, in the heap's words. No condition. -/
import Derived.Test.YthgdllfkejlnmaaGreatDoorHVBent0
namespace Go.Proofs.YthgdllfkejlnmaaGreatDoor
open Go Go.RowKit
set_option maxRecDepth 100000
set_option linter.all false
set_option maxHeartbeats 1000000
variable {H : Hp} {K : AV → Hp → Prop} {B : Nat → Prop} {w0 w : World} {ι : En}
/-- a row of one's own, in the world -/
theorem own_row {i ty : Nat} {els : List (List AC)} (hs : Sim B w0 ι H w) (hi : H[i]? = some (.row ty 1 els true)) :
    ∃ cur, w.heap[(ι i).block]? = some (.cells cur ty (0, 0)) ∧ cur.size = (ι i).cap ∧ els.length ≤ (ι i).cap ∧ (ι i).cap ≤ maxLen ∧ (ι i).off = 0 ∧ (ι i).sz = 1 ∧ ∀ (k : Nat) (e : List AC), els[k]? = some e → ∀ x, e[0]? = some x → ∃ u, cur[k]? = some u ∧ x.rel ι u := by
  obtain ⟨h1, h2, cur, fr, h3, h4, h5⟩ := hs.obj i _ hi
  obtain ⟨rfl, h6, h7, h8⟩ := h5 rfl
  refine ⟨cur, h3, by rw [h7, Nat.mul_one], h2, h8, h6, h1, fun k e hk x hx => ?_⟩
  obtain ⟨u, h9, h10⟩ := h4 k e hk 0 x hx
  exact ⟨u, by rw [h6] at h9; simpa using h9, h10⟩
theorem cell_at {b : Nat} {cur : Array Value} {ty : TypeId} {fr : Nat × Nat} (h : w.heap[b]? = some (.cells cur ty fr)) (j : Nat) : w.cell? ⟨b, j, none⟩ = cur[j]? := by simp [World.cell?, h]
def insL (l : List UInt8) (n k : Nat) (x : UInt8) : List UInt8 := l.take k ++ x :: (l.drop k).take (n - k)
theorem insL_len {l : List UInt8} {n k : Nat} (x : UInt8) (hn : n ≤ l.length) (hk : k < n) : (insL l n k x).length = n + 1 := by simp [insL]; omega
theorem insL_at {l : List UInt8} {n k : Nat} (x : UInt8) (hn : n ≤ l.length) (hk : k < n) (j : Nat) : (insL l n k x)[j]? = if j < k then l[j]? else if j = k then some x else if j ≤ n then l[j - 1]? else none := by
  unfold insL
  by_cases h1 : j < k
  · rw [if_pos h1, List.getElem?_append_left (by simp; omega), List.getElem?_take, if_pos h1]
  · rw [if_neg h1, List.getElem?_append_right (by simp; omega), List.length_take, Nat.min_eq_left (by omega)]
    by_cases h2 : j = k
    · subst h2; rw [if_pos rfl, Nat.sub_self]; rfl
    · rw [if_neg h2, show j - k = (j - 1 - k) + 1 by omega, List.getElem?_cons_succ, List.getElem?_take, List.getElem?_drop]
      by_cases h3 : j ≤ n
      · rw [if_pos h3, if_pos (by omega), show k + (j - 1 - k) = j - 1 by omega]
      · rw [if_neg h3, if_neg (by omega)]
theorem gb_trans {a b c : World} {r : Option Nat} (h : a.grownBy b r) (k : b.grownBy c r) : a.grownBy c r :=
  ⟨k.os.trans h.os, k.tape.trans h.tape, k.output.trans h.output, Nat.le_trans h.size k.size, fun i hi hne => (k.block i (Nat.lt_of_lt_of_le hi h.size) hne).trans (h.block i hi hne)⟩
theorem new_blk (w : World) (o : Obj) : (w.alloc o).drew.heap[w.heap.size]? = some o := by
  show (w.heap.push o)[w.heap.size]? = _
  simp
/-- what two copies leave in a row -/
theorem ins_cells {W : World} {g k n cap : Nat} {l : List UInt8} {x : UInt8} {cur : Array Value} {cs : List Value} (hn : n ≤ l.length) (hkn : k < n) (hcs : cs = (l.take n).map bU) (hc : cap = cur.size) (hcap : n + 1 ≤ cap) (hh : W.heap[g]? = some (.cells cur 5 (0, 0))) (hcur : ∀ m, m < k → cur[m]? = cs[m]?) :
    ∃ cur', ((W.setCells g k [bU x]).setCells g (k + 1) (cs.drop k)).heap[g]? = some (.cells cur' 5 (0, 0)) ∧ cur'.size = cap ∧ ∀ (j : Nat) (y : UInt8), (insL l n k x)[j]? = some y → cur'[j]? = some (bU y) := by
  have hcl : cs.length = n := by rw [hcs]; simp; omega
  have hd : (cs.drop k).length = n - k := by rw [List.length_drop, hcl]
  obtain ⟨c1, h1, h2, h3⟩ := sc_all [bU x] k W cur hh (by simp; omega)
  obtain ⟨c2, h4, h5, h6⟩ := sc_all (cs.drop k) (k + 1) _ c1 h1 (by rw [hd, h2]; omega)
  refine ⟨c2, h4, by rw [h5, h2, hc], fun j y hj => ?_⟩
  rw [insL_at x hn hkn] at hj
  rw [h6 j, hd, h3 j]
  simp only [List.length_cons, List.length_nil]
  split at hj
  · rename_i e1
    rw [if_neg (by omega), if_neg (by omega), hcur j e1, hcs, List.getElem?_map, List.getElem?_take, if_pos (by omega), hj]; rfl
  · split at hj
    · rename_i e1 e2
      subst e2
      simp only [Option.some.injEq] at hj
      subst hj
      rw [if_neg (by omega), if_pos (by omega), Nat.sub_self]; rfl
    · split at hj
      · rename_i e1 e2 e3
        rw [if_pos (by omega), List.getElem?_drop, show k + (j - (k + 1)) = j - 1 by omega, hcs, List.getElem?_map, List.getElem?_take, if_pos (by omega), hj]; rfl
      · cases hj
end Go.Proofs.YthgdllfkejlnmaaGreatDoor
