/- Rows of bytes that a call turns: its contract in the heap's words. No condition. -/
import Derived.Test.YthgdllfkejlnmaaGreatDoorHVInsert
import Derived.Test.YthgdllfkejlnmaaGreatDoorHVBytes
namespace Go.Proofs.YthgdllfkejlnmaaGreatDoor
open Go Go.RowKit
set_option maxRecDepth 100000
set_option linter.all false
set_option maxHeartbeats 1000000
variable {H : Hp} {K : AV → Hp → Prop}
def bU (x : UInt8) : Value := .int .u8 (x.toNat : Int)
theorem sc_one {w : World} {b : Nat} {cur : Array Value} {ty : TypeId} {fr : Nat × Nat} (h : w.heap[b]? = some (.cells cur ty fr)) (o : Nat) (v : Value) : (w.setCell ⟨b, o, none⟩ v).heap[b]? = some (.cells (cur.setIfInBounds o v) ty fr) := by
  simp [World.setCell, Array.getElem?_modify, h]
theorem sc_all {b : Nat} {ty : TypeId} {fr : Nat × Nat} : ∀ (vs : List Value) (o : Nat) (w : World) (cur : Array Value), w.heap[b]? = some (.cells cur ty fr) → o + vs.length ≤ cur.size →
    ∃ cur', (w.setCells b o vs).heap[b]? = some (.cells cur' ty fr) ∧ cur'.size = cur.size ∧ ∀ j, cur'[j]? = if o ≤ j ∧ j < o + vs.length then vs[j - o]? else cur[j]?
  | [], o, w, cur, h, _ => ⟨cur, h, rfl, fun j => by rw [if_neg (by simp)]⟩
  | v :: r, o, w, cur, h, hb => by
    simp only [List.length_cons] at hb
    obtain ⟨c, h1, h2, h3⟩ := sc_all r (o + 1) _ _ (sc_one h o v) (by rw [Array.size_setIfInBounds]; omega)
    refine ⟨c, h1, by rw [h2, Array.size_setIfInBounds], fun j => ?_⟩
    rw [h3 j, Array.getElem?_setIfInBounds]
    simp only [List.length_cons]
    by_cases e1 : o = j
    · subst e1
      rw [if_neg (by omega), if_pos rfl, if_pos (by omega), if_pos (by omega), Nat.sub_self]
      rfl
    · by_cases e2 : o + 1 ≤ j ∧ j < o + 1 + r.length
      · rw [if_pos e2, if_pos (by omega), show j - o = (j - (o + 1)) + 1 by omega, List.getElem?_cons_succ]
      · rw [if_neg e2, if_neg e1, if_neg (by omega)]
theorem sc_grown (b : Nat) : ∀ (vs : List Value) (o : Nat) (w : World), w.grownBy (w.setCells b o vs) (some b)
  | [], _, w => ⟨rfl, rfl, rfl, Nat.le_refl _, fun _ _ _ => rfl⟩
  | v :: r, o, w => by
    have h := sc_grown b r (o + 1) (w.setCell ⟨b, o, none⟩ v)
    have hs : (w.setCell ⟨b, o, none⟩ v).heap.size = w.heap.size := by simp [World.setCell]
    exact ⟨h.os, h.tape, h.output, by have := h.size; rw [hs] at this; exact this, fun k hk hne => (h.block k (by rw [hs]; exact hk) hne).trans (Below.heap_setCell _ _ _ _ (fun e => hne (by rw [e])))⟩
/-- the row lies at g: where b lies, or in a new block -/
structure BRow (w w' : World) (b g cap : Nat) (l : List UInt8) : Prop where
  keep : w.grownBy w' (some b)
  place : g = b ∨ w.heap.size ≤ g
  row : ∃ cur, w'.heap[g]? = some (.cells cur 5 (0, 0)) ∧ cur.size = cap ∧ ∀ (j : Nat) (x : UInt8), l[j]? = some x → cur[j]? = some (bU x)
  len : l.length ≤ cap
  most : cap ≤ maxLen
theorem ACalls.bytes {f : FuncId} {args : List AV} {i : Nat} {els : List (List AC)} {l : List UInt8} {n : Nat} (hi : H[i]? = some (.row 5 1 els true)) (hnl : n ≤ l.length)
    (h : ∀ B w0 ι w vs, Sim B w0 ι H w → argsRel ι args vs → Calls Tryz.prog f vs w fun e w' => ∃ g cap, e = .returned (.slice (some ⟨g, 0, none⟩) n cap) ∧ BRow w w' (ι i).block g cap l)
    (hk : K (.c (.sl (some (H.length, 0)) n)) (H.set i .dead ++ [.row 5 1 (l.map encU) true])) : ACalls Tryz.prog f args H K := by
  intro B w0 ι w vs hs hr ho
  refine (h B w0 ι w vs hs hr).mono ?_
  rintro e w' ⟨g, cap, rfl, hw⟩
  obtain ⟨cur, hc1, hc2, hc3⟩ := hw.row
  have hlt := getElem?_lt hi
  have hsd := hs.dead hi rfl
  have hHb : ∀ b, some (ι i).block = some b → ¬ B b ∧ (∀ o, ι.fz b o = none) ∧ ∀ (j : Nat) (o : AObj), (H.set i .dead)[j]? = some o → o.live = true → (ι j).block ≠ b := by
    rintro b hb
    injection hb with hb
    subst hb
    refine ⟨hs.base i _ hi rfl, hs.apart i _ hi rfl, fun j o hj hl => ?_⟩
    by_cases e : i = j
    · subst e
      rw [List.getElem?_set_self hlt] at hj
      injection hj with hj; subst hj; simp [AObj.live] at hl
    · rw [List.getElem?_set_ne e] at hj
      exact Ne.symm (hs.sep i j _ o e hi rfl hj hl)
  have hsd' := hsd.grownRow hw.keep hHb
  have hgB : ¬ B g ∧ (∀ o, ι.fz g o = none) ∧ ∀ (j : Nat) (o : AObj), (H.set i .dead)[j]? = some o → o.live = true → (ι j).block ≠ g := by
    rcases hw.place with h0 | h0
    · exact hHb g (by rw [h0])
    · refine ⟨fun hk => by have := hs.big _ hk; omega, fun o => hs.fz_new h0 o, fun j o hj hl => ?_⟩
      have := AObj.holds_lt hl (hsd.obj j o hj)
      omega
  have hlen : (H.set i .dead).length = H.length := by simp
  have hfin := hsd'.add (.row 5 1 (l.map encU) true) ⟨g, 0, 1, cap⟩ hgB.1 (fun _ => hgB.2.1) hgB.2.2 (by
      intro e he
      obtain ⟨x, _, rfl⟩ := List.mem_map.1 he
      exact ⟨rfl, fun y hy => by simp only [encU, List.mem_singleton] at hy; subst hy; trivial⟩)
    ⟨rfl, by rw [List.length_map]; exact hw.len, cur, (0, 0), hc1, fun k e hke j y hj => by
      rw [List.getElem?_map] at hke
      obtain ⟨x, hx, rfl⟩ := Option.map_eq_some_iff.1 hke
      cases j with
      | zero =>
        simp only [encU, List.getElem?_cons_zero, Option.some.injEq] at hj
        subst hj
        exact ⟨bU x, by simpa using hc3 k x hx, rfl⟩
      | succ j => simp [encU] at hj, fun _ => ⟨rfl, rfl, by rw [hc2, Nat.mul_one], hw.most⟩⟩
  refine ⟨_, _, .c (.sl (some (H.length, 0)) n), _, rfl, by rw [← hlen]; exact upd_agree _ _ _, by simp, hfin, ?_, ?_, hk⟩
  · rw [← hlen]
    have hn := hw.len
    exact ⟨⟨g, 0, none⟩, by rw [upd_same]; simp, by rw [upd_same]; show 0 + n ≤ cap; omega, fun _ => by rw [upd_same]; simp [Loc.at]⟩
  · show H.length < _
    simp
end Go.Proofs.YthgdllfkejlnmaaGreatDoor
