/- Several texts in one: Rows of bytes that a call turns: its contract in the heap's words, and what follows. No condition. -/
import Derived.Test.YtnodfnjmhcjnfaaGreatHVInsert
import Derived.Test.YtnodfnjmhcjnfaaGreatHVNums
/- Rows of bytes that a call turns: its contract in the heap's words. No condition. -/
namespace Go.Proofs.YtnodfnjmhcjnfaaGreat
open Go Go.RowKit
set_option maxRecDepth 100000
set_option linter.all false
set_option maxHeartbeats 1000000
variable {H : Hp} {K : AV → Hp → Prop}
def bU (x : UInt8) : Value := .int .u8 (x.toNat : Int)
theorem sc_one {w : World} {b : Nat} {cur : Array Value} {ty : TypeId} {fr : Nat × Nat} (h : w.heap[b]? = some (.cells cur ty fr)) (o : Nat) (v : Value) : (w.setCell ⟨b, o, none⟩ v).heap[b]? = some (.cells (cur.setIfInBounds o v) ty fr) := by
  simp [World.setCell, Array.getElem?_modify, h]
theorem sc_all {b : Nat} {ty : TypeId} {fr : Nat × Nat} : ∀ (vs : List Value) (o : Nat) (w : World) (cur : Array Value), w.heap[b]? = some (.cells cur ty fr) → o + vs.length ≤ cur.size →
    ∃ cur', (w.setCells b o vs).heap[b]? = some (.cells cur' ty fr) ∧ cur'.size = cur.size ∧ ∀ j, cur'[j]? = if o ≤ j ∧ j < o + vs.length then vs[j - o]? else cur[j]?
  | [], o, w, cur, h, _ => ⟨cur, h, rfl, fun j => by rw [if_neg (by simp)]⟩
  | v :: r, o, w, cur, h, hb => by
    simp only [List.length_cons] at hb
    obtain ⟨c, h1, h2, h3⟩ := sc_all r (o + 1) _ _ (sc_one h o v) (by rw [Array.size_setIfInBounds]; omega)
    refine ⟨c, h1, by rw [h2, Array.size_setIfInBounds], fun j => ?_⟩
    rw [h3 j, Array.getElem?_setIfInBounds]
    simp only [List.length_cons]
    by_cases e1 : o = j
    · subst e1
      rw [if_neg (by omega), if_pos rfl, if_pos (by omega), if_pos (by omega), Nat.sub_self]
      rfl
    · by_cases e2 : o + 1 ≤ j ∧ j < o + 1 + r.length
      · rw [if_pos e2, if_pos (by omega), show j - o = (j - (o + 1)) + 1 by omega, List.getElem?_cons_succ]
      · rw [if_neg e2, if_neg e1, if_neg (by omega)]
theorem sc_grown (b : Nat) : ∀ (vs : List Value) (o : Nat) (w : World), w.grownBy (w.setCells b o vs) (some b)
  | [], _, w => ⟨rfl, rfl, rfl, Nat.le_refl _, fun _ _ _ => rfl⟩
  | v :: r, o, w => by
    have h := sc_grown b r (o + 1) (w.setCell ⟨b, o, none⟩ v)
    have hs : (w.setCell ⟨b, o, none⟩ v).heap.size = w.heap.size := by simp [World.setCell]
    exact ⟨h.os, h.tape, h.output, by have := h.size; rw [hs] at this; exact this, fun k hk hne => (h.block k (by rw [hs]; exact hk) hne).trans (Below.heap_setCell _ _ _ _ (fun e => hne (by rw [e])))⟩
structure BRow (w w' : World) (b g cap : Nat) (l : List UInt8) : Prop where
  keep : w.grownBy w' (some b)
  place : g = b ∨ w.heap.size ≤ g
  row : ∃ cur, w'.heap[g]? = some (.cells cur 5 (0, 0)) ∧ cur.size = cap ∧ ∀ (j : Nat) (x : UInt8), l[j]? = some x → cur[j]? = some (bU x)
  len : l.length ≤ cap
  most : cap ≤ maxLen
theorem ACalls.bytes {f : FuncId} {args : List AV} {i : Nat} {els : List (List AC)} {l : List UInt8} {n : Nat} (hi : H[i]? = some (.row 5 1 els true)) (hnl : n ≤ l.length)
    (h : ∀ B w0 ι w vs, Sim B w0 ι H w → argsRel ι args vs → Calls Tryz.prog f vs w fun e w' => ∃ g cap, e = .returned (.slice (some ⟨g, 0, none⟩) n cap) ∧ BRow w w' (ι i).block g cap l)
    (hk : K (.c (.sl (some (H.length, 0)) n)) (H.set i .dead ++ [.row 5 1 (l.map encU) true])) : ACalls Tryz.prog f args H K := by
  intro B w0 ι w vs hs hr ho
  refine (h B w0 ι w vs hs hr).mono ?_
  rintro e w' ⟨g, cap, rfl, hw⟩
  obtain ⟨cur, hc1, hc2, hc3⟩ := hw.row
  have hlt := getElem?_lt hi
  have hsd := hs.dead hi rfl
  have hHb : ∀ b, some (ι i).block = some b → ¬ B b ∧ (∀ o, ι.fz b o = none) ∧ ∀ (j : Nat) (o : AObj), (H.set i .dead)[j]? = some o → o.live = true → (ι j).block ≠ b := by
    rintro b hb
    injection hb with hb
    subst hb
    refine ⟨hs.base i _ hi rfl, hs.apart i _ hi rfl, fun j o hj hl => ?_⟩
    by_cases e : i = j
    · subst e
      rw [List.getElem?_set_self hlt] at hj
      injection hj with hj; subst hj; simp [AObj.live] at hl
    · rw [List.getElem?_set_ne e] at hj
      exact Ne.symm (hs.sep i j _ o e hi rfl hj hl)
  have hsd' := hsd.grownRow hw.keep hHb
  have hgB : ¬ B g ∧ (∀ o, ι.fz g o = none) ∧ ∀ (j : Nat) (o : AObj), (H.set i .dead)[j]? = some o → o.live = true → (ι j).block ≠ g := by
    rcases hw.place with h0 | h0
    · exact hHb g (by rw [h0])
    · refine ⟨fun hk => by have := hs.big _ hk; omega, fun o => hs.fz_new h0 o, fun j o hj hl => ?_⟩
      have := AObj.holds_lt hl (hsd.obj j o hj)
      omega
  have hlen : (H.set i .dead).length = H.length := by simp
  have hfin := hsd'.add (.row 5 1 (l.map encU) true) ⟨g, 0, 1, cap⟩ hgB.1 (fun _ => hgB.2.1) hgB.2.2 (by
      intro e he
      obtain ⟨x, _, rfl⟩ := List.mem_map.1 he
      exact ⟨rfl, fun y hy => by simp only [encU, List.mem_singleton] at hy; subst hy; trivial⟩)
    ⟨rfl, by rw [List.length_map]; exact hw.len, cur, (0, 0), hc1, fun k e hke j y hj => by
      rw [List.getElem?_map] at hke
      obtain ⟨x, hx, rfl⟩ := Option.map_eq_some_iff.1 hke
      cases j with
      | zero =>
        simp only [encU, List.getElem?_cons_zero, Option.some.injEq] at hj
        subst hj
        exact ⟨bU x, by simpa using hc3 k x hx, rfl⟩
      | succ j => simp [encU] at hj, fun _ => ⟨rfl, rfl, by rw [hc2, Nat.mul_one], hw.most⟩⟩
  refine ⟨_, _, .c (.sl (some (H.length, 0)) n), _, rfl, by rw [← hlen]; exact upd_agree _ _ _, by simp, hfin, ?_, ?_, hk⟩
  · rw [← hlen]
    have hn := hw.len
    exact ⟨⟨g, 0, none⟩, by rw [upd_same]; simp, by rw [upd_same]; show 0 + n ≤ cap; omega, fun _ => by rw [upd_same]; simp [Loc.at]⟩
  · show H.length < _
    simp
end Go.Proofs.YtnodfnjmhcjnfaaGreat
/- slices.Insert and slices.Delete of bytes, in the heap's words. No condition. -/
namespace Go.Proofs.YtnodfnjmhcjnfaaGreat
open Go Go.RowKit
set_option maxRecDepth 100000
set_option linter.all false
set_option maxHeartbeats 1000000
variable {H : Hp} {K : AV → Hp → Prop} {B : Nat → Prop} {w0 w : World} {ι : En}
theorem own_row {i ty : Nat} {els : List (List AC)} (hs : Sim B w0 ι H w) (hi : H[i]? = some (.row ty 1 els true)) :
    ∃ cur, w.heap[(ι i).block]? = some (.cells cur ty (0, 0)) ∧ cur.size = (ι i).cap ∧ els.length ≤ (ι i).cap ∧ (ι i).cap ≤ maxLen ∧ (ι i).off = 0 ∧ (ι i).sz = 1 ∧ ∀ (k : Nat) (e : List AC), els[k]? = some e → ∀ x, e[0]? = some x → ∃ u, cur[k]? = some u ∧ x.rel ι u := by
  obtain ⟨h1, h2, cur, fr, h3, h4, h5⟩ := hs.obj i _ hi
  obtain ⟨rfl, h6, h7, h8⟩ := h5 rfl
  refine ⟨cur, h3, by rw [h7, Nat.mul_one], h2, h8, h6, h1, fun k e hk x hx => ?_⟩
  obtain ⟨u, h9, h10⟩ := h4 k e hk 0 x hx
  exact ⟨u, by rw [h6] at h9; simpa using h9, h10⟩
theorem cell_at {b : Nat} {cur : Array Value} {ty : TypeId} {fr : Nat × Nat} (h : w.heap[b]? = some (.cells cur ty fr)) (j : Nat) : w.cell? ⟨b, j, none⟩ = cur[j]? := by simp [World.cell?, h]
def insL (l : List UInt8) (n k : Nat) (x : UInt8) : List UInt8 := l.take k ++ x :: (l.drop k).take (n - k)
theorem insL_len {l : List UInt8} {n k : Nat} (x : UInt8) (hn : n ≤ l.length) (hk : k < n) : (insL l n k x).length = n + 1 := by simp [insL]; omega
theorem insL_at {l : List UInt8} {n k : Nat} (x : UInt8) (hn : n ≤ l.length) (hk : k < n) (j : Nat) : (insL l n k x)[j]? = if j < k then l[j]? else if j = k then some x else if j ≤ n then l[j - 1]? else none := by
  unfold insL
  by_cases h1 : j < k
  · rw [if_pos h1, List.getElem?_append_left (by simp; omega), List.getElem?_take, if_pos h1]
  · rw [if_neg h1, List.getElem?_append_right (by simp; omega), List.length_take, Nat.min_eq_left (by omega)]
    by_cases h2 : j = k
    · subst h2; rw [if_pos rfl, Nat.sub_self]; rfl
    · rw [if_neg h2, show j - k = (j - 1 - k) + 1 by omega, List.getElem?_cons_succ, List.getElem?_take, List.getElem?_drop]
      by_cases h3 : j ≤ n
      · rw [if_pos h3, if_pos (by omega), show k + (j - 1 - k) = j - 1 by omega]
      · rw [if_neg h3, if_neg (by omega)]
theorem gb_trans {a b c : World} {r : Option Nat} (h : a.grownBy b r) (k : b.grownBy c r) : a.grownBy c r :=
  ⟨k.os.trans h.os, k.tape.trans h.tape, k.output.trans h.output, Nat.le_trans h.size k.size, fun i hi hne => (k.block i (Nat.lt_of_lt_of_le hi h.size) hne).trans (h.block i hi hne)⟩
theorem new_blk (w : World) (o : Obj) : (w.alloc o).drew.heap[w.heap.size]? = some o := by
  show (w.heap.push o)[w.heap.size]? = _
  simp
theorem ins_cells {W : World} {g k n cap : Nat} {l : List UInt8} {x : UInt8} {cur : Array Value} {cs : List Value} (hn : n ≤ l.length) (hkn : k < n) (hcs : cs = (l.take n).map bU) (hc : cap = cur.size) (hcap : n + 1 ≤ cap) (hh : W.heap[g]? = some (.cells cur 5 (0, 0))) (hcur : ∀ m, m < k → cur[m]? = cs[m]?) :
    ∃ cur', ((W.setCells g k [bU x]).setCells g (k + 1) (cs.drop k)).heap[g]? = some (.cells cur' 5 (0, 0)) ∧ cur'.size = cap ∧ ∀ (j : Nat) (y : UInt8), (insL l n k x)[j]? = some y → cur'[j]? = some (bU y) := by
  have hcl : cs.length = n := by rw [hcs]; simp; omega
  have hd : (cs.drop k).length = n - k := by rw [List.length_drop, hcl]
  obtain ⟨c1, h1, h2, h3⟩ := sc_all [bU x] k W cur hh (by simp; omega)
  obtain ⟨c2, h4, h5, h6⟩ := sc_all (cs.drop k) (k + 1) _ c1 h1 (by rw [hd, h2]; omega)
  refine ⟨c2, h4, by rw [h5, h2, hc], fun j y hj => ?_⟩
  rw [insL_at x hn hkn] at hj
  rw [h6 j, hd, h3 j]
  simp only [List.length_cons, List.length_nil]
  split at hj
  · rename_i e1
    rw [if_neg (by omega), if_neg (by omega), hcur j e1, hcs, List.getElem?_map, List.getElem?_take, if_pos (by omega), hj]; rfl
  · split at hj
    · rename_i e1 e2
      subst e2
      simp only [Option.some.injEq] at hj
      subst hj
      rw [if_neg (by omega), if_pos (by omega), Nat.sub_self]; rfl
    · split at hj
      · rename_i e1 e2 e3
        rw [if_pos (by omega), List.getElem?_drop, show k + (j - (k + 1)) = j - 1 by omega, hcs, List.getElem?_map, List.getElem?_take, if_pos (by omega), hj]; rfl
      · cases hj
theorem insert_a {i j : Nat} (l : List UInt8) (n k : Nat) (x : UInt8) (hi : H[i]? = some (.row 5 1 (l.map encU) true)) (hj : H[j]? = some (.row 5 1 [encU x] true)) (hij : i ≠ j) (hn : n ≤ l.length) (hkn : k < n) (hb : n ≤ 1000000000)
    (hk : K (.c (.sl (some (H.length, 0)) (n + 1))) (H.set i .dead ++ [.row 5 1 ((insL l n k x).map encU) true])) : ACalls Tryz.prog 23 [.c (.sl (some (i, 0)) n), (.c (.int .i64 k)), .c (.sl (some (j, 0)) 1)] H K := by
  refine ACalls.bytes hi (by rw [insL_len x hn hkn]; exact Nat.le_refl _) (fun B w0 ι w vs hs hr => ?_) hk
  obtain ⟨cur, a1, a2, a3, a4, a5, a6, a7⟩ := own_row hs hi
  obtain ⟨cur2, b1, b2, b3, b4, b5, b6, b7⟩ := own_row hs hj
  have hne : (ι j).block ≠ (ι i).block := hs.sep j i _ _ (Ne.symm hij) hj rfl hi rfl
  rw [List.length_map] at a3
  obtain ⟨vl⟩ := vs
  match vl, hr with
  | [v1, v2, v3], hr =>
    obtain ⟨⟨p1, rfl, g1, g2⟩, rfl, ⟨p3, rfl, g3, g4⟩, _⟩ := hr
    have g2 := g2 (.inr rfl)
    have g4 := g4 (.inr rfl)
    simp only [Loc.at, a5, b5, a6, b6, Nat.zero_mul, Nat.add_zero, Nat.zero_add] at g2 g4
    subst g2
    subst g4
    rw [Nat.sub_zero, Nat.sub_zero]
    generalize hb1 : (ι i).block = b at *
    generalize hb2 : (ι j).block = vb at *
    generalize (ι i).cap = c at *
    generalize (ι j).cap = vc at *
    have hcur : ∀ (m : Nat) (y : UInt8), l[m]? = some y → cur[m]? = some (bU y) := fun m y hm => by
      obtain ⟨u, h1, h2⟩ := a7 m (encU y) (by rw [List.getElem?_map, hm]; rfl) _ rfl
      rw [h1]
      exact congrArg some h2
    have hx2 : cur2[0]? = some (bU x) := by
      obtain ⟨u, h1, h2⟩ := b7 0 (encU x) rfl _ rfl
      rw [h1]
      exact congrArg some h2
    obtain ⟨cs, hcs⟩ : ∃ cs, cs = (l.take n).map bU := ⟨_, rfl⟩
    have hcl : cs.length = n := by rw [hcs]; simp; omega
    have hcc : ∀ (m : Nat) (v : Value), cs[m]? = some v → w.cell? ⟨b, m, none⟩ = some v := fun m v hm => by
      rw [hcs, List.getElem?_map, List.getElem?_take] at hm
      split at hm
      · obtain ⟨y, hy, rfl⟩ := Option.map_eq_some_iff.1 hm
        rw [cell_at a1]
        exact hcur m y hy
      · cases hm
    have h1c : ∀ v ∈ cs, v.oneCell' = true := fun v hv => by rw [hcs] at hv; obtain ⟨y, _, rfl⟩ := List.mem_map.1 hv; rfl
    have hxc : w.cell? ⟨vb, 0, none⟩ = some (bU x) := by rw [cell_at b1]; exact hx2
    have hpos : 1 ≤ c := by omega
    by_cases hroom : n + 1 ≤ c
    · refine (ins_room b k n c vb vc cs (bU x) w hkn hroom (by unfold maxLen at a4; omega) hne hcl hcc (fun m hm => ?_) (fun m hm => ?_) hxc h1c rfl 5 5 cur2.size cur.size (by simp [World.shape?, b1]) (by simp [World.shape?, a1]) (by omega) (by simp [World.frozen?, b1]) (by simp [World.frozen?, b1])).mono ?_
      · rw [cell_at a1, Array.getElem?_eq_getElem (by omega)]; rfl
      · simp [World.frozen?, a1]
      rintro e w' ⟨rfl, rfl⟩
      have hd : (cs.drop k).length = n - k := by rw [List.length_drop, hcl]
      obtain ⟨c1, q1, q2, q3⟩ := sc_all (cs.drop k) (k + 1) w.drew cur a1 (by rw [hd]; omega)
      obtain ⟨c2, q4, q5, q6⟩ := sc_all [bU x] k _ c1 q1 (by simp; omega)
      have hk1 : w.grownBy (w.drew.setCells b (k + 1) (cs.drop k)) (some b) := by
        have := sc_grown b (cs.drop k) (k + 1) w.drew
        exact ⟨this.os, this.tape, this.output, this.size, this.block⟩
      refine ⟨b, c, rfl, gb_trans hk1 (sc_grown b _ _ _), .inl rfl, ⟨c2, q4, by rw [q5, q2, a2], fun m y hm => ?_⟩, by rw [insL_len x hn hkn]; exact hroom, a4⟩
      rw [insL_at x hn hkn] at hm
      rw [q6 m, q3 m, hd]
      simp only [List.length_cons, List.length_nil]
      split at hm
      · rename_i e1
        rw [if_neg (by omega), if_neg (by omega)]
        exact hcur m y hm
      · split at hm
        · rename_i e1 e2
          subst e2
          simp only [Option.some.injEq] at hm
          subst hm
          rw [if_pos (by omega), Nat.sub_self]; rfl
        · split at hm
          · rename_i e1 e2 e3
            rw [if_neg (by omega), if_pos (by omega), List.getElem?_drop, show k + (m - (k + 1)) = m - 1 by omega, hcs, List.getElem?_map, List.getElem?_take, if_pos (by omega), hm]; rfl
          · cases hm
    · refine (ins_new b k n c vb vc cs (bU x) w hkn (by simpa using g1) (by omega) hb hcl hcc hxc h1c rfl).mono ?_
      rintro e w' ⟨rfl, rfl⟩
      obtain ⟨G, hG⟩ : ∃ G, G = grownCap w (n + 1) c 5 := ⟨_, rfl⟩
      have hG1 : n + 1 ≤ G := by rw [hG]; exact grownCap_ge w _ _ _
      have hG2 : G ≤ maxLen := by rw [hG]; exact grownCap_le_maxLen w (n + 1) c 5 (by unfold maxLen; omega)
      rw [← hG]
      have hRs : (insRow cs k G).size = G := by unfold insRow; simp [Builtin.zeroCells, Value.cells]; omega
      have hst : ∀ m, m < k → (insRow cs k G)[m]? = cs[m]? := fun m hm => by
        unfold insRow
        rw [Array.getElem?_append_left (by simp; omega), Array.getElem?_append_left (by simp; omega)]
        simp [hm]
      obtain ⟨cur', r1, r2, r3⟩ := ins_cells (W := (w.alloc (.cells (insRow cs k G) 5)).drew) (g := w.heap.size) (x := x) (cap := G) hn hkn hcs hRs.symm hG1 (new_blk w _) hst
      have hA : w.grownBy (w.alloc (.cells (insRow cs k G) 5)) none := World.grownBy_alloc w _ none
      have hg1 := sc_grown w.heap.size [bU x] k (w.alloc (.cells (insRow cs k G) 5)).drew
      have hg2 := sc_grown w.heap.size (cs.drop k) (k + 1) ((w.alloc (.cells (insRow cs k G) 5)).drew.setCells w.heap.size k [bU x]).drew
      have hg3 := gb_trans hg1 ⟨hg2.os, hg2.tape, hg2.output, hg2.size, hg2.block⟩
      have e1 : (w.alloc (.cells (insRow cs k G) 5)).heap.size = w.heap.size + 1 := World.size_alloc _ _
      refine ⟨w.heap.size, _, rfl, ⟨hg3.os, hg3.tape, hg3.output, Nat.le_trans (by show _ ≤ (w.alloc _).heap.size; omega) hg3.size, fun q hq hne => ?_⟩, .inr (Nat.le_refl _), ⟨cur', ?_, r2, r3⟩, by rw [insL_len x hn hkn]; exact hG1, hG2⟩
      · exact (hg3.block q (by show q < (w.alloc _).heap.size; omega) (fun e => by injection e with e; omega)).trans (hA.block q hq (by simp))
      · have e2 : (((w.alloc (.cells (insRow cs k G) 5)).drew.setCells w.heap.size k [bU x]).drew).setCells w.heap.size (k + 1) (cs.drop k) = (((w.alloc (.cells (insRow cs k G) 5)).drew.setCells w.heap.size k [bU x]).setCells w.heap.size (k + 1) (cs.drop k)).drew := (drew_setCells _ _ _ _).symm
        rw [e2]
        exact r1
end Go.Proofs.YtnodfnjmhcjnfaaGreat
