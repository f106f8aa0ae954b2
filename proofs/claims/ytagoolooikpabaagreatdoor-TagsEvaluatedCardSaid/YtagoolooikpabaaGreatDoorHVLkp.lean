/- What a tag is at a moment, by series. No program in sight. -/
import Derived.Test.YtagoolooikpabaaGreatDoorHVSer
import Derived.Test.YtagoolooikpabaaGreatDoorHVTxtN
set_option linter.all false
namespace Go.Proofs.YtagoolooikpabaaGreatDoor
open Go Go.RowKit
set_option maxRecDepth 100000
set_option maxHeartbeats 1000000
def lastS (l : List Smp) (m : Int) : Option Smp := (l.filter fun y => decide (y.t ≤ m)).getLast?
def vlS : Option Smp → Vl
 | none => badV
 | some y => ⟨y.v, y.q⟩
def serL (ss : List Ser) (x : ByteArray) : List Smp := ((ss.filter fun s => decide (s.tg = x)).map (·.l)).flatten
def lookP (ss : List Ser) (x : ByteArray) (m : Int) : Vl := vlS (lastS (serL ss x) m)
theorem serL_mem {ss : List Ser} {x : ByteArray} {y : Smp} (h : y ∈ serL ss x) : ∃ s ∈ ss, s.tg = x ∧ y ∈ s.l := by
 unfold serL at h
 rw [List.mem_flatten] at h
 obtain ⟨l, hl, hy⟩ := h
 obtain ⟨s, hs, rfl⟩ := List.mem_map.1 hl
 rw [List.mem_filter] at hs
 exact ⟨s, hs.1, by simpa using hs.2, hy⟩
theorem lastS_mem {l : List Smp} {m : Int} {y : Smp} (h : lastS l m = some y) : y ∈ l ∧ y.t ≤ m := by
 unfold lastS at h
 have := List.mem_of_getLast? h
 rw [List.mem_filter] at this
 exact ⟨this.1, by simpa using this.2⟩
theorem lookP_ok {ss : List Ser} (h : slF ss = 0) (x : ByteArray) (m : Int) : VlOk (lookP ss x m) := by
 unfold lookP
 cases hl : lastS (serL ss x) m with
 | none => exact badV_ok
 | some y =>
  obtain ⟨s, hs, _, hy⟩ := serL_mem (lastS_mem hl).1
  have h1 := ((slF_ok h).2.1 s hs).1
  obtain ⟨_, h2, h3, h4⟩ := smp_ok2 h1 y hy
  exact ⟨⟨by show _ ≤ y.v; omega, by show y.v ≤ _; omega⟩, h3, h4⟩
theorem lookP_neg {ss : List Ser} (h : slF ss = 0) (x : ByteArray) (m : Int) (hm : m < 0) : lookP ss x m = badV := by
 unfold lookP
 cases hl : lastS (serL ss x) m with
 | none => rfl
 | some y =>
  obtain ⟨h0, h00⟩ := lastS_mem hl
  obtain ⟨s, hs, _, hy⟩ := serL_mem h0
  have h1 := ((slF_ok h).2.1 s hs).1
  obtain ⟨h2, _⟩ := smp_ok2 h1 y hy
  omega
theorem serL_at {ss : List Ser} (h : ∀ (i j : Nat) (hj : j < ss.length) (hij : i < j), ordS (ss[i]'oMg).tg ss[j].tg < 0) {k : Nat} (hk : k < ss.length) : serL ss ss[k].tg = ss[k].l := by
 have hf : ss.filter (fun s => decide (s.tg = ss[k].tg)) = [ss[k]] := by
  have e1 : ss = ss.take k ++ ss[k] :: ss.drop (k + 1) := by rw [List.getElem_cons_drop, List.take_append_drop]
  have hb : ∀ s ∈ ss.take k, s.tg ≠ ss[k].tg := fun s hs => by
   obtain ⟨i, hi, rfl⟩ := List.getElem_of_mem hs
   rw [List.length_take] at hi
   rw [List.getElem_take]
   have := h i k hk oMg
   intro e
   rw [(ordS_eq _ _).2 e] at this
   omega
  have ha : ∀ s ∈ ss.drop (k + 1), s.tg ≠ ss[k].tg := fun s hs => by
   obtain ⟨i, hi, rfl⟩ := List.getElem_of_mem hs
   rw [List.length_drop] at hi
   rw [List.getElem_drop]
   have := h k (k + 1 + i) oMg oMg
   intro e
   rw [(ordS_eq _ _).2 e.symm] at this
   omega
  generalize ss[k] = x at *
  rw [e1, List.filter_append, List.filter_cons_of_pos sMp, List.filter_eq_nil_iff.2 (fun s hs => by simpa using hb s hs), List.filter_eq_nil_iff.2 (fun s hs => by simpa using ha s hs)]
  rfl
 unfold serL
 rw [hf]
 simp
theorem serL_no {ss : List Ser} {x : ByteArray} (h : ∀ s ∈ ss, s.tg ≠ x) : serL ss x = [] := by
 unfold serL
 rw [List.filter_eq_nil_iff.2 (fun s hs => by simpa using h s hs)]
 rfl
theorem lastS_pos {l : List Smp} {m : Int} {p : Nat} (hp : p ≤ l.length) (h1 : ∀ q (h : q < l.length), q < p → l[q].t ≤ m) (h2 : ∀ q (h : q < l.length), p ≤ q → m < l[q].t) : lastS l m = if h : 0 < p then some (l[p - 1]'oMg) else none := by
 have e : l.filter (fun y => decide (y.t ≤ m)) = l.take p := by
  conv => lhs; rw [← List.take_append_drop p l]
  rw [List.filter_append, List.filter_eq_self.2 (fun y hy => ?_), List.filter_eq_nil_iff.2 (fun y hy => ?_), List.append_nil]
  ·obtain ⟨i, hi, rfl⟩ := List.getElem_of_mem hy
   rw [List.length_drop] at hi
   rw [List.getElem_drop]
   have := h2 (p + i) oMg oMg
   simp only [decide_eq_true_eq]
   omega
  ·obtain ⟨i, hi, rfl⟩ := List.getElem_of_mem hy
   rw [List.length_take] at hi
   rw [List.getElem_take]
   simpa using h1 i oMg oMg
 unfold lastS
 rw [e]
 split
 ·rename_i h
  rw [List.getLast?_eq_getElem?, List.length_take, List.getElem?_take, if_pos oMg, show min p l.length - 1 = p - 1 by omega, List.getElem?_eq_getElem oMg]
 ·have : p = 0 := by omega
  subst this
  rfl
theorem lastS_snoc (l : List Smp) (y : Smp) (m : Int) : vlS (lastS (l ++ [y]) m) = if y.t ≤ m then ⟨y.v, y.q⟩ else vlS (lastS l m) := by
 unfold lastS
 rw [List.filter_append]
 by_cases h : y.t ≤ m
 ·rw [if_pos h, List.filter_cons_of_pos (by simpa using h)]
  simp [vlS]
 ·rw [if_neg h, List.filter_cons_of_neg (by simpa using h)]
  simp
end Go.Proofs.YtagoolooikpabaaGreatDoor
