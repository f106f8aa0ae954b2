/- Several texts in one: Duplicates: the program's answer, and what follows. No condition. -/
import Derived.Test.YtnodfnjmhcjnfaaGreatDoorHVArrH
import Derived.Test.YtnodfnjmhcjnfaaGreatDoorHVGD
import Derived.Test.YtnodfnjmhcjnfaaGreatDoorHVGA
import Derived.Test.YtnodfnjmhcjnfaaGreatDoorHCoreRange
import Derived.Test.YtnodfnjmhcjnfaaGreatDoorHVDecTop
import Derived.RangeFuncBound
import Derived.RangeFuncCalls
import Derived.Shelf.Abstract
import Derived.WalkKit
import Derived.OwnWalkIn
import Derived.TacticsInMore
import Derived.LoopNIn
import Derived.LoopIn
import Derived.Test.YtnodfnjmhcjnfaaGreatDoorProg
import Derived.Shelf.Spec.SlicesInsertGrow
import Derived.Test.YtnodfnjmhcjnfaaGreatDoorHCoreC
import Derived.Test.YtnodfnjmhcjnfaaGreatDoorHVBytes
/- Duplicates: the program's answer. Condition: names' sizes; at most a million. -/
namespace Go.Proofs.YtnodfnjmhcjnfaaGreatDoor
open Go Go.RowKit
set_option maxRecDepth 100000
set_option linter.all false
set_option maxHeartbeats 1000000
variable {H : Hp} {K : AV → Hp → Prop}
theorem fsF_get (l : List Arr) (i : Nat) (h : i < (fsF l).length) : (fsF l)[i] = !isD l i := by simp [fsF]
theorem fsF_len (l : List Arr) : (fsF l).length = l.length := by simp [fsF]
end Go.Proofs.YtnodfnjmhcjnfaaGreatDoor
/- The numbers of a node: the program's answer. Condition: names' sizes; at most a million. -/
namespace Go.Proofs.YtnodfnjmhcjnfaaGreatDoor
open Go Go.RowKit
set_option maxRecDepth 100000
set_option linter.all false
set_option maxHeartbeats 1000000
variable {H : Hp} {K : AV → Hp → Prop}
theorem okN_ev (S : List Int) (n : Nat) : (mpO (S.map encEv)).okN n := by
  unfold mpO AObj.okN
  intro p hp
  obtain ⟨x, _, rfl⟩ := List.mem_map.1 hp
  exact ⟨trivial, trivial⟩
end Go.Proofs.YtnodfnjmhcjnfaaGreatDoor
/- Complete and Missing: the program's answers. Condition: names' sizes; at most a million. -/
namespace Go.Proofs.YtnodfnjmhcjnfaaGreatDoor
open Go Go.RowKit
set_option maxRecDepth 100000
set_option linter.all false
set_option maxHeartbeats 1000000
variable {H : Hp} {K : AV → Hp → Prop}
theorem arGo_all : ∀ {l : List Arr} {p : Option Arr}, arGo p l = 0 → ∀ x ∈ l, arrErr x = 0
  | [], _, _ => by simp
  | a :: t, p, h => by
    unfold arGo at h
    split at h
    · rename_i c; exact absurd h c
    · rename_i c
      have c : arS p a = 0 := by omega
      intro x hx
      rcases List.mem_cons.1 hx with rfl | hx
      · unfold arS at c
        split at c
        · exact c
        · omega
      · exact arGo_all h x hx
theorem arF_all {l : List Arr} (h : arF l = 0) : ∀ x ∈ l, arrErr x = 0 := by
  unfold arF at h
  split at h
  · omega
  · split at h
    · omega
    · rename_i c; exact arGo_all (p := none) (by omega)
end Go.Proofs.YtnodfnjmhcjnfaaGreatDoor
/- How long arrivals of a node were on their way: the program's answer and the document's. Condition: names' sizes; at most a million. -/
namespace Go.Proofs.YtnodfnjmhcjnfaaGreatDoor
open Go Go.RowKit
set_option maxRecDepth 100000
set_option linter.all false
set_option maxHeartbeats 1000000
variable {H : Hp} {K : AV → Hp → Prop}
theorem smpErr_bd {s : Smp} (h : smpErr s = 0) : 0 ≤ s.t ∧ s.t ≤ 345686399999 := by
  unfold smpErr at h
  split at h
  · omega
  · omega
theorem arrErr_smp {a : Arr} (h : arrErr a = 0) : smpErr a.p.s = 0 := by
  unfold arrErr at h
  split at h
  · omega
  · split at h
    · omega
    · split at h
      · omega
      · exact h
/-! ### the document's -/
def fiN (l : List Arr) (k : Nat) : List Nat := (List.range k).filter fun i => !isD l i
theorem fiN_len (l : List Arr) (k : Nat) : (fiN l k).length ≤ k := by
  unfold fiN
  have := List.length_filter_le (fun i => !isD l i) (List.range k)
  rwa [List.length_range] at this
end Go.Proofs.YtnodfnjmhcjnfaaGreatDoor
/- Arrivals sorted, joined and compacted: the program's Merge. Condition: names' sizes; at most 20 arrivals. -/
namespace Go.Proofs.YtnodfnjmhcjnfaaGreatDoor
open Go Go.RowKit
set_option maxRecDepth 100000
set_option linter.all false
set_option maxHeartbeats 1000000
variable {H : Hp} {K : AV → Hp → Prop}
instance arrDec : DecidableEq Arr := fun a b =>
  if h : a.nd = b.nd ∧ a.t = b.t ∧ a.p = b.p then isTrue (by cases a; cases b; simp_all) else isFalse (by rintro rfl; simp at h)
attribute [simp] encAr
theorem grV_lenA {α β : Type} (i : Nat) (l : List α) (m : List β) (h : l.length = m.length) : grV i l = grV i m := by
  cases l with
  | nil => cases m with
    | nil => rfl
    | cons y ys => cases h
  | cons x xs => cases m with
    | nil => cases h
    | cons y ys =>
      show AC.sl (some (i, 0)) (xs.length + 1) = AC.sl (some (i, 0)) (ys.length + 1)
      rw [show xs.length + 1 = ys.length + 1 from h]
theorem first2A (a b : Int) {i ty n : Nat} {els : List (List AC)} {own : Bool} (hi : H[i]? = some (.row ty 1 els own)) (he : els = [[.int .i64 a], [.int .i64 b]]) (hn : n = 2) (hk : K (.c (.int .i64 (firstE [a, b]))) (H.set i .dead)) : ACalls Tryz.prog 106 [.c (.sl (some (i, 0)) n)] H K := by
  subst he hn
  exact ACalls.lit hi (by simp [pureL, AC.pure]) (args' := [.c (.lst 1 ([a, b].map encI))]) (by simp [AV.frz1, AC.frz, encI]) (first_a [a, b] (by simp) hk)
end Go.Proofs.YtnodfnjmhcjnfaaGreatDoor
/- slices.Backward over pieces of a file, gone through. No condition. -/
namespace Go.Proofs.YtnodfnjmhcjnfaaGreatDoor
open Go Go.RowKit Go.Shelf
theorem fenP_round (r : Option Nat) : (fen r).round = r := rfl
theorem fenP_depth (r : Option Nat) : (fen r).depth = none := rfl
attribute [local go_sem] Oper.semAt_some Oper.semAt_none fenP_round fenP_depth
set_option maxRecDepth 100000
end Go.Proofs.YtnodfnjmhcjnfaaGreatDoor
/- Rows of bytes that a call turns: its contract in the heap's words. No condition. -/
namespace Go.Proofs.YtnodfnjmhcjnfaaGreatDoor
open Go Go.RowKit
set_option maxRecDepth 100000
set_option linter.all false
set_option maxHeartbeats 1000000
variable {H : Hp} {K : AV → Hp → Prop}
def bU (x : UInt8) : Value := .int .u8 (x.toNat : Int)
structure BRow (w w' : World) (b g cap : Nat) (l : List UInt8) : Prop where
  keep : w.grownBy w' (some b)
  place : g = b ∨ w.heap.size ≤ g
  row : ∃ cur, w'.heap[g]? = some (.cells cur 5 (0, 0)) ∧ cur.size = cap ∧ ∀ (j : Nat) (x : UInt8), l[j]? = some x → cur[j]? = some (bU x)
  len : l.length ≤ cap
  most : cap ≤ maxLen
theorem ACalls.bytes {f : FuncId} {args : List AV} {i : Nat} {els : List (List AC)} {l : List UInt8} {n : Nat} (hi : H[i]? = some (.row 5 1 els true)) (hnl : n ≤ l.length)
    (h : ∀ B w0 ι w vs, Sim B w0 ι H w → argsRel ι args vs → Calls Tryz.prog f vs w fun e w' => ∃ g cap, e = .returned (.slice (some ⟨g, 0, none⟩) n cap) ∧ BRow w w' (ι i).block g cap l)
    (hk : K (.c (.sl (some (H.length, 0)) n)) (H.set i .dead ++ [.row 5 1 (l.map encU) true])) : ACalls Tryz.prog f args H K := by
  intro B w0 ι w vs hs hr ho
  refine (h B w0 ι w vs hs hr).mono ?_
  rintro e w' ⟨g, cap, rfl, hw⟩
  obtain ⟨cur, hc1, hc2, hc3⟩ := hw.row
  have hlt := getElem?_lt hi
  have hsd := hs.dead hi rfl
  have hHb : ∀ b, some (ι i).block = some b → ¬ B b ∧ (∀ o, ι.fz b o = none) ∧ ∀ (j : Nat) (o : AObj), (H.set i .dead)[j]? = some o → o.live = true → (ι j).block ≠ b := by
    rintro b hb
    injection hb with hb
    subst hb
    refine ⟨hs.base i _ hi rfl, hs.apart i _ hi rfl, fun j o hj hl => ?_⟩
    by_cases e : i = j
    · subst e
      rw [List.getElem?_set_self hlt] at hj
      injection hj with hj; subst hj; simp [AObj.live] at hl
    · rw [List.getElem?_set_ne e] at hj
      exact Ne.symm (hs.sep i j _ o e hi rfl hj hl)
  have hsd' := hsd.grownRow hw.keep hHb
  have hgB : ¬ B g ∧ (∀ o, ι.fz g o = none) ∧ ∀ (j : Nat) (o : AObj), (H.set i .dead)[j]? = some o → o.live = true → (ι j).block ≠ g := by
    rcases hw.place with h0 | h0
    · exact hHb g (by rw [h0])
    · refine ⟨fun hk => by have := hs.big _ hk; omega, fun o => hs.fz_new h0 o, fun j o hj hl => ?_⟩
      have := AObj.holds_lt hl (hsd.obj j o hj)
      omega
  have hlen : (H.set i .dead).length = H.length := by simp
  have hfin := hsd'.add (.row 5 1 (l.map encU) true) ⟨g, 0, 1, cap⟩ hgB.1 (fun _ => hgB.2.1) hgB.2.2 (by
      intro e he
      obtain ⟨x, _, rfl⟩ := List.mem_map.1 he
      exact ⟨rfl, fun y hy => by simp only [encU, List.mem_singleton] at hy; subst hy; trivial⟩)
    ⟨rfl, by rw [List.length_map]; exact hw.len, cur, (0, 0), hc1, fun k e hke j y hj => by
      rw [List.getElem?_map] at hke
      obtain ⟨x, hx, rfl⟩ := Option.map_eq_some_iff.1 hke
      cases j with
      | zero =>
        simp only [encU, List.getElem?_cons_zero, Option.some.injEq] at hj
        subst hj
        exact ⟨bU x, by simpa using hc3 k x hx, rfl⟩
      | succ j => simp [encU] at hj, fun _ => ⟨rfl, rfl, by rw [hc2, Nat.mul_one], hw.most⟩⟩
  refine ⟨_, _, .c (.sl (some (H.length, 0)) n), _, rfl, by rw [← hlen]; exact upd_agree _ _ _, by simp, hfin, ?_, ?_, hk⟩
  · rw [← hlen]
    have hn := hw.len
    exact ⟨⟨g, 0, none⟩, by rw [upd_same]; simp, by rw [upd_same]; show 0 + n ≤ cap; omega, fun _ => by rw [upd_same]; simp [Loc.at]⟩
  · show H.length < _
    simp
end Go.Proofs.YtnodfnjmhcjnfaaGreatDoor
