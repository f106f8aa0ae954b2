/- Several texts in one: The nodes of arrivals, sorted, each once: the document's answer, and what follows. No condition. -/
import Derived.Test.YtnodfnjmhcjnfaaGreatDoorHVMoment
import Derived.Test.YtnodfnjmhcjnfaaGreatDoorHVCpt
import Derived.Test.YtnodfnjmhcjnfaaGreatDoorHVPickC
import Derived.Test.YtnodfnjmhcjnfaaGreatDoorHVGA
import Derived.Test.YtnodfnjmhcjnfaaGreatDoorHCoreRange
import Derived.Test.YtnodfnjmhcjnfaaGreatDoorHVParse
import Derived.RangeFuncBound
import Derived.RangeFuncCalls
import Derived.Shelf.Abstract
import Derived.WalkKit
import Derived.OwnWalkIn
import Derived.TacticsInMore
import Derived.LoopNIn
import Derived.LoopIn
import Derived.Test.YtnodfnjmhcjnfaaGreatDoorProg
import Derived.Shelf.Spec.SlicesInsertGrow
import Derived.Test.YtnodfnjmhcjnfaaGreatDoorHCoreC
import Derived.Test.YtnodfnjmhcjnfaaGreatDoorHVBytes
/- The nodes of arrivals, sorted, each once: the document's answer. No condition. -/
namespace Go.Proofs.YtnodfnjmhcjnfaaGreatDoor
open Go Go.RowKit
set_option maxRecDepth 100000
set_option linter.all false
set_option maxHeartbeats 1000000
variable {H : Hp} {K : AV → Hp → Prop}
theorem insNilS_a (hk : K (.tup []) H) : ACalls Tryz.prog 316 [.c (.sl none 0), (.c (.int .i64 0)), (.c (.int .i64 0))] H K := by
  refine acalls Tryz.func316 rfl (by kernel_rfl) (by simp (disch := first | omega | (simp only [go_sem]; first | done | omega)) only [go_sem]) (fun hH => ?_)
  simp (disch := first | omega | (simp only [go_sem]; first | done | omega)) only [go_sem]
  refine AWp.loop (H.length) [0, 1, 2] [6] (fun (q : Unit) => True) (fun (q : Unit) => [(6, (.c (.int .i64 1)))]) (fun (q : Unit) => H) (fun (q : Unit) => 0) (by kernel_rfl) (fun _ => rfl) (by kernel_rfl) (by first | (simp; done) | omega) (by first | (simp; done) | (simp; omega) | omega) kl ?_ (fun q hq _ _ => ?_)
  · exact Next.mk () trivial wk
  simp (disch := first | omega | (simp only [go_sem]; first | done | omega)) only [go_sem]
  exact Ret.same (Nat.le_refl _) hk
theorem pdqNilS_a {l : Nat} (hk : K (.tup []) H) : ACalls Tryz.prog 268 [.c (.sl none 0), (.c (.int .i64 0)), (.c (.int .i64 0)), (.c (.int .i64 l))] H K := by
  refine acallsS Tryz.func268 rfl (by simp (disch := first | omega | (simp only [go_sem]; first | done | omega)) only [go_sem]) (fun hH => ?_)
  (refine SWp.go (by kernel_rfl) ?_; simp (disch := first | omega | (simp only [go_sem]; first | done | omega)) only [go_sem])
  (refine SWp.go (by kernel_rfl) ?_; simp (disch := first | omega | (simp only [go_sem]; first | done | omega)) only [go_sem])
  refine SWp.inB ?_
  refine SWp.loop (H.length) [0] [1, 2, 3, 8, 9] (fun (s : Unit) => True) (fun (s : Unit) => [(1, (.c (.int .i64 0))), (2, (.c (.int .i64 0))), (3, (.c (.int .i64 l))), (8, (.c (.bool true))), (9, (.c (.bool true)))]) (fun (s : Unit) => H) (fun (s : Unit) => 0) (fun _ => rfl) (by kernel_rfl) (by first | (simp; done) | omega) (by first | (simp; done) | (simp; omega) | omega) kl ?_ (fun s _ _ _ => ?_)
  · exact Next.mk () trivial wk
  refine SWp.inB ?_
  refine SWp.of (by kernel_rfl) ?_
  simp (disch := first | omega | (simp only [go_sem]; first | done | omega)) only [go_sem]
  refine insNilS_a ?_
  simp (disch := first | omega | (simp only [go_sem]; first | done | omega)) only [go_sem]
  exact Ret.same (by simp) hk
theorem sortNilS_a (hk : K (.tup []) H) : ACalls Tryz.prog 193 [.c (.sl none 0)] H K := by
  refine acalls Tryz.func193 rfl (by kernel_rfl) (by simp (disch := first | omega | (simp only [go_sem]; first | done | omega)) only [go_sem]) (fun hH => ?_)
  simp (disch := first | omega | (simp only [go_sem]; first | done | omega)) only [go_sem]
  have hw : IntKind.u64.wrap (0 : Int) = (0 : Int) := by decide
  try rw [hw]
  refine len0_a ?_
  simp (disch := first | omega | (simp only [go_sem]; first | done | omega)) only [go_sem]
  refine pdqNilS_a (l := 0) ?_
  simp (disch := first | omega | (simp only [go_sem]; first | done | omega)) only [go_sem]
  exact Ret.same (Nat.le_refl _) hk
theorem sortVS_a (l : List ByteArray) {i : Nat} (hi : H[i]? = some (grO 9 1 (l.map encSs))) (hlen : l.length ≤ 1000000) (hk : K (.tup []) (H.set i (grO 9 1 ((srtS l).map encSs)))) : ACalls Tryz.prog 193 [.c (grV i l)] H K := by
  by_cases h0 : l = []
  · subst h0
    have e : srtS [] = [] := List.length_eq_zero_iff.1 (by rw [srtS_len]; rfl)
    rw [e, List.map_nil] at hk
    rw [List.map_nil] at hi
    rw [set_same hi] at hk
    exact sortNilS_a hk
  · have h1 : srtS l ≠ [] := by intro h; have := srtS_len l; rw [h] at this; exact h0 (List.length_eq_zero_iff.1 this.symm)
    rw [grO_pos _ _ (by simpa using h0)] at hi
    rw [grO_pos _ _ (by simpa using h1)] at hk
    rw [grV_pos _ h0]
    exact sortS_a l hi rfl h0 hlen hk
theorem compactNilS_a (hk : K (.c (.lst 1 [])) H) : ACalls Tryz.prog 194 [.c (.sl none 0)] H K := by
  refine acalls Tryz.func194 rfl (by kernel_rfl) (by simp (disch := first | omega | (simp only [go_sem]; first | done | omega)) only [go_sem]) (fun hH => ?_)
  simp (disch := first | omega | (simp only [go_sem]; first | done | omega)) only [go_sem]
  refine Ret.nil [1] (Nat.le_refl _) ?_
  exact Ret.same (Nat.le_refl _) hk
theorem compactVS_a (l : List ByteArray) {i : Nat} (hi : H[i]? = some (grO 9 1 (l.map encSs))) (hlen : l.length ≤ 1000000)
    (hk : K (.c (.lst 1 ((cplF l).map encSs))) (H.set i .dead)) : ACalls Tryz.prog 194 [.c (grV i l)] H K := by
  by_cases h : l = []
  · subst h
    have hi2 : H[i]? = some AObj.dead := hi
    rw [set_same hi2] at hk
    exact compactNilS_a hk
  · have h2 : l.map encSs ≠ [] := by simpa using h
    rw [grO_pos _ _ h2] at hi
    rw [grV_pos _ h]
    exact compactSt_a l hi rfl hlen hk
theorem appS {i q ty : Nat} {own : Bool} {J : AV → Hp → Prop} (l : List ByteArray) (x : ByteArray) (l2 : List ByteArray) (e : l2 = l ++ [x]) (hi : H[i]? = some (grO 9 1 (l.map encSs))) (hj : H[q]? = some (.row ty 1 [[.str x]] own)) (hb : l.length ≤ 1000000000)
    (h : J (.c (grV H.length l2)) (H.set i .dead ++ [grO 9 1 (l2.map encSs)])) : aBuiltin Tryz.prog .append #[78, 78] [.c (grV i l), .c (.sl (some (q, 0)) 1)] H J := by
  subst e
  exact app_grR (enc := encSs) (e := 9) (sz := 1) (bs := 16) (z := [.str .empty]) l [x] (by kernel_rfl) (by kernel_rfl) (by kernel_rfl) (by kernel_rfl) hi (by rw [hj]; rfl) (by simp) rfl (by decide) (by simp; omega) (by simp; omega) h
end Go.Proofs.YtnodfnjmhcjnfaaGreatDoor
/- The nodes of arrivals: as many whichever way they are counted. No program in sight. -/
namespace Go.Proofs.YtnodfnjmhcjnfaaGreatDoor
open Go Go.RowKit
set_option maxRecDepth 100000
set_option linter.all false
set_option maxHeartbeats 1000000
theorem cplG_mem {α : Type} [DecidableEq α] {x : α} : ∀ {t : List α} {p : α}, x ∈ p :: cplG p t ↔ x ∈ p :: t
  | [], p => by simp [cplG]
  | y :: t, p => by
    have ih := cplG_mem (x := x) (t := t) (p := y)
    unfold cplG
    by_cases h : y = p
    · subst h
      simp only [if_true, List.nil_append]
      rw [ih]
      simp
    · rw [if_neg h, List.singleton_append, List.mem_cons, ih, List.mem_cons (a := x) (b := p)]
theorem cplF_mem {α : Type} [DecidableEq α] {x : α} {l : List α} : x ∈ cplF l ↔ x ∈ l := by
  cases l with
  | nil => exact Iff.rfl
  | cons p t => exact cplG_mem
theorem cplG_lt {α : Type} [DecidableEq α] {r : α → α → Prop} (ha : ∀ a b, r a b → r b a → a = b) : ∀ {t : List α} {p : α}, (p :: t).Pairwise r → (p :: cplG p t).Pairwise (fun a b => r a b ∧ a ≠ b)
  | [], p, _ => by simp [cplG]
  | y :: t, p, h => by
    have h1 := List.pairwise_cons.1 h
    have ih := cplG_lt ha h1.2
    unfold cplG
    by_cases hy : y = p
    · subst hy
      simpa using ih
    · rw [if_neg hy, List.singleton_append]
      refine List.pairwise_cons.2 ⟨fun z hz => ?_, ih⟩
      have hz := cplG_mem.1 hz
      refine ⟨h1.1 z hz, fun e => ?_⟩
      subst e
      rcases List.mem_cons.1 hz with e | e
      · exact hy e.symm
      · exact hy (ha _ _ ((List.pairwise_cons.1 h1.2).1 _ e) (h1.1 y (List.mem_cons_self)))
theorem cplF_lt {α : Type} [DecidableEq α] {r : α → α → Prop} (ha : ∀ a b, r a b → r b a → a = b) {l : List α} (h : l.Pairwise r) : (cplF l).Pairwise (fun a b => r a b ∧ a ≠ b) := by
  cases l with
  | nil => exact List.Pairwise.nil
  | cons p t => exact cplG_lt ha h
def leBy (a b : ByteArray) : Prop := toL a ≤ toL b
theorem leBy_anti (a b : ByteArray) (h1 : leBy a b) (h2 : leBy b a) : a = b := by
  have := List.le_antisymm h1 h2
  rw [← ofL_toL a, this, ofL_toL]
theorem srtS_sorted (l : List ByteArray) : (srtS l).Pairwise leBy := by
  have h := List.pairwise_mergeSort (le := fun x y : List UInt8 => decide (x ≤ y)) (by intro a b c h1 h2; simp at h1 h2 ⊢; exact List.le_trans h1 h2) (by intro a b; simp; exact List.le_total a b) (l.map toL)
  rw [← srtS_toL, List.pairwise_map] at h
  exact h.imp (fun h => by simpa [leBy] using h)
theorem srtS_mem {l : List ByteArray} {x : ByteArray} : x ∈ srtS l ↔ x ∈ l := by
  have h : toL x ∈ (srtS l).map toL ↔ toL x ∈ l.map toL := by rw [srtS_toL]; exact (List.mergeSort_perm _ _).mem_iff
  have hi : ∀ a b : ByteArray, toL a = toL b → a = b := fun a b h => by rw [← ofL_toL a, h, ofL_toL]
  have e : ∀ m : List ByteArray, toL x ∈ m.map toL ↔ x ∈ m := fun m => ⟨fun h => by obtain ⟨y, hy, e⟩ := List.mem_map.1 h; rw [← hi _ _ e]; exact hy, fun h => List.mem_map.2 ⟨x, h, rfl⟩⟩
  rw [e, e] at h
  exact h
end Go.Proofs.YtnodfnjmhcjnfaaGreatDoor
/- Arrivals that are the first of their packet: the program's answer. Condition: at most a million. -/
namespace Go.Proofs.YtnodfnjmhcjnfaaGreatDoor
open Go Go.RowKit
set_option maxRecDepth 100000
set_option linter.all false
set_option maxHeartbeats 1000000
variable {H : Hp} {K : AV → Hp → Prop}
end Go.Proofs.YtnodfnjmhcjnfaaGreatDoor
/- CompleteOf: the document's answer. Condition: at most a million; numbers from 1 to a million. -/
namespace Go.Proofs.YtnodfnjmhcjnfaaGreatDoor
open Go Go.RowKit
set_option maxRecDepth 100000
set_option linter.all false
set_option maxHeartbeats 1000000
variable {H : Hp} {K : AV → Hp → Prop}
theorem cplG_le {α : Type} [DecidableEq α] : ∀ (t : List α) (p : α), (cplG p t).length ≤ t.length
  | [], _ => by simp [cplG]
  | y :: t, p => by
    have ih := cplG_le t y
    unfold cplG
    split <;> simp <;> omega
theorem cplF_le {α : Type} [DecidableEq α] (l : List α) : (cplF l).length ≤ l.length := by
  cases l with
  | nil => exact Nat.le_refl _
  | cons x t => have := cplG_le t x; unfold cplF; simp; omega
end Go.Proofs.YtnodfnjmhcjnfaaGreatDoor
/- Arrivals sorted, joined and compacted: the program's Merge. Condition: names' sizes; at most 20 arrivals. -/
namespace Go.Proofs.YtnodfnjmhcjnfaaGreatDoor
open Go Go.RowKit
set_option maxRecDepth 100000
set_option linter.all false
set_option maxHeartbeats 1000000
variable {H : Hp} {K : AV → Hp → Prop}
instance arrDec : DecidableEq Arr := fun a b =>
  if h : a.nd = b.nd ∧ a.t = b.t ∧ a.p = b.p then isTrue (by cases a; cases b; simp_all) else isFalse (by rintro rfl; simp at h)
end Go.Proofs.YtnodfnjmhcjnfaaGreatDoor
/- slices.Backward over pieces of a file, gone through. No condition. -/
namespace Go.Proofs.YtnodfnjmhcjnfaaGreatDoor
open Go Go.RowKit Go.Shelf
theorem fenP_round (r : Option Nat) : (fen r).round = r := rfl
theorem fenP_depth (r : Option Nat) : (fen r).depth = none := rfl
attribute [local go_sem] Oper.semAt_some Oper.semAt_none fenP_round fenP_depth
set_option maxRecDepth 100000
end Go.Proofs.YtnodfnjmhcjnfaaGreatDoor
/- Rows of bytes that a call turns: its contract in the heap's words. No condition. -/
namespace Go.Proofs.YtnodfnjmhcjnfaaGreatDoor
open Go Go.RowKit
set_option maxRecDepth 100000
set_option linter.all false
set_option maxHeartbeats 1000000
variable {H : Hp} {K : AV → Hp → Prop}
def bU (x : UInt8) : Value := .int .u8 (x.toNat : Int)
structure BRow (w w' : World) (b g cap : Nat) (l : List UInt8) : Prop where
  keep : w.grownBy w' (some b)
  place : g = b ∨ w.heap.size ≤ g
  row : ∃ cur, w'.heap[g]? = some (.cells cur 5 (0, 0)) ∧ cur.size = cap ∧ ∀ (j : Nat) (x : UInt8), l[j]? = some x → cur[j]? = some (bU x)
  len : l.length ≤ cap
  most : cap ≤ maxLen
theorem ACalls.bytes {f : FuncId} {args : List AV} {i : Nat} {els : List (List AC)} {l : List UInt8} {n : Nat} (hi : H[i]? = some (.row 5 1 els true)) (hnl : n ≤ l.length)
    (h : ∀ B w0 ι w vs, Sim B w0 ι H w → argsRel ι args vs → Calls Tryz.prog f vs w fun e w' => ∃ g cap, e = .returned (.slice (some ⟨g, 0, none⟩) n cap) ∧ BRow w w' (ι i).block g cap l)
    (hk : K (.c (.sl (some (H.length, 0)) n)) (H.set i .dead ++ [.row 5 1 (l.map encU) true])) : ACalls Tryz.prog f args H K := by
  intro B w0 ι w vs hs hr ho
  refine (h B w0 ι w vs hs hr).mono ?_
  rintro e w' ⟨g, cap, rfl, hw⟩
  obtain ⟨cur, hc1, hc2, hc3⟩ := hw.row
  have hlt := getElem?_lt hi
  have hsd := hs.dead hi rfl
  have hHb : ∀ b, some (ι i).block = some b → ¬ B b ∧ (∀ o, ι.fz b o = none) ∧ ∀ (j : Nat) (o : AObj), (H.set i .dead)[j]? = some o → o.live = true → (ι j).block ≠ b := by
    rintro b hb
    injection hb with hb
    subst hb
    refine ⟨hs.base i _ hi rfl, hs.apart i _ hi rfl, fun j o hj hl => ?_⟩
    by_cases e : i = j
    · subst e
      rw [List.getElem?_set_self hlt] at hj
      injection hj with hj; subst hj; simp [AObj.live] at hl
    · rw [List.getElem?_set_ne e] at hj
      exact Ne.symm (hs.sep i j _ o e hi rfl hj hl)
  have hsd' := hsd.grownRow hw.keep hHb
  have hgB : ¬ B g ∧ (∀ o, ι.fz g o = none) ∧ ∀ (j : Nat) (o : AObj), (H.set i .dead)[j]? = some o → o.live = true → (ι j).block ≠ g := by
    rcases hw.place with h0 | h0
    · exact hHb g (by rw [h0])
    · refine ⟨fun hk => by have := hs.big _ hk; omega, fun o => hs.fz_new h0 o, fun j o hj hl => ?_⟩
      have := AObj.holds_lt hl (hsd.obj j o hj)
      omega
  have hlen : (H.set i .dead).length = H.length := by simp
  have hfin := hsd'.add (.row 5 1 (l.map encU) true) ⟨g, 0, 1, cap⟩ hgB.1 (fun _ => hgB.2.1) hgB.2.2 (by
      intro e he
      obtain ⟨x, _, rfl⟩ := List.mem_map.1 he
      exact ⟨rfl, fun y hy => by simp only [encU, List.mem_singleton] at hy; subst hy; trivial⟩)
    ⟨rfl, by rw [List.length_map]; exact hw.len, cur, (0, 0), hc1, fun k e hke j y hj => by
      rw [List.getElem?_map] at hke
      obtain ⟨x, hx, rfl⟩ := Option.map_eq_some_iff.1 hke
      cases j with
      | zero =>
        simp only [encU, List.getElem?_cons_zero, Option.some.injEq] at hj
        subst hj
        exact ⟨bU x, by simpa using hc3 k x hx, rfl⟩
      | succ j => simp [encU] at hj, fun _ => ⟨rfl, rfl, by rw [hc2, Nat.mul_one], hw.most⟩⟩
  refine ⟨_, _, .c (.sl (some (H.length, 0)) n), _, rfl, by rw [← hlen]; exact upd_agree _ _ _, by simp, hfin, ?_, ?_, hk⟩
  · rw [← hlen]
    have hn := hw.len
    exact ⟨⟨g, 0, none⟩, by rw [upd_same]; simp, by rw [upd_same]; show 0 + n ≤ cap; omega, fun _ => by rw [upd_same]; simp [Loc.at]⟩
  · show H.length < _
    simp
end Go.Proofs.YtnodfnjmhcjnfaaGreatDoor
