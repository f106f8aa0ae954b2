/- Plain lemmas, over any program: worlds that only grow, slices that read as lists, rows that a call owns and appends to. No condition. -/
import Derived.Test.YtdbieohfojgbgaaRows
import Derived.WalkKit
import Derived.WalkLawsBesides
import Derived.WalkSpells
import Derived.BigQuiet
import Derived.Deep.QuietTactic
import Derived.Deep.Draws
import Derived.Maps.AppendAt
namespace Go.Proofs.Ytdbieohfojgbgaa
open Go Go.RowKit

theorem hid {p : Prop} (h : p) : Hid p := h

/-! ### Only one old block may have turned -/
theorem gb_refl (w : World) (r : Option Nat) : w.grownBy w r := World.grownBy.refl w r
theorem gb_trans {a b c : World} {r : Option Nat} (h : a.grownBy b r) (k : b.grownBy c r) : a.grownBy c r :=
  ⟨k.os.trans h.os, k.tape.trans h.tape, k.output.trans h.output, Nat.le_trans h.size k.size, fun i hi hn => (k.block i (Nat.lt_of_lt_of_le hi h.size) hn).trans (h.block i hi hn)⟩
theorem gb_none {a b : World} {r : Option Nat} (h : a.grownBy b none) : a.grownBy b r := ⟨h.os, h.tape, h.output, h.size, fun i hi _ => h.block i hi (by simp)⟩
theorem gb_drewN (w : World) (n : Nat) (r : Option Nat) : w.grownBy (w.drewN n) r := ⟨rfl, rfl, rfl, Nat.le_refl _, fun _ _ _ => rfl⟩
theorem gb_drew (w : World) (r : Option Nat) : w.grownBy w.drew r := ⟨rfl, rfl, rfl, Nat.le_refl _, fun _ _ _ => rfl⟩
theorem gb_alloc (w : World) (o : Obj) (r : Option Nat) : w.grownBy (w.alloc o) r := World.grownBy_alloc w o r
theorem gb_setCell (w : World) (a : Addr) (v : Value) : w.grownBy (w.setCell a v) (some a.block) :=
  ⟨rfl, rfl, rfl, by simp [World.setCell], fun k _ hn => Below.heap_setCell _ _ _ _ (fun e => hn (by rw [e]))⟩
/-- A step that may turn one block of the call's own. -/
theorem gb_new {a b c : World} {r s : Option Nat} (h : a.grownBy b r) (k : b.grownBy c s) (hs : ∀ g, s = some g → a.heap.size ≤ g) : a.grownBy c r :=
  ⟨k.os.trans h.os, k.tape.trans h.tape, k.output.trans h.output, Nat.le_trans h.size k.size, fun i hi hn => (k.block i (Nat.lt_of_lt_of_le hi h.size) (fun e => by have := hs i e.symm; omega)).trans (h.block i hi hn)⟩
theorem gb_below {a b : World} (h : a.grownBy b none) : Below a.heap.size a b := ⟨h.os, h.tape, h.output, h.size, fun i hi => h.block i hi (by simp)⟩
theorem below_gb {a b : World} (h : Below a.heap.size a b) : a.grownBy b none := ⟨h.os, h.tape, h.output, h.size, fun i hi _ => h.block i hi⟩
theorem gb_heap {w w' : World} {r : Option Nat} (hg : w.grownBy w' r) {b : Nat} {o : Obj} (h : w.heap[b]? = some o) (hn : some b ≠ r) : w'.heap[b]? = some o :=
  (hg.block b (Array.getElem?_eq_some_iff.1 h).1 hn).trans h
theorem lt_heap {w : World} {b : Nat} {o : Obj} (h : w.heap[b]? = some o) : b < w.heap.size := (Array.getElem?_eq_some_iff.1 h).1
theorem add_block (a : Addr) (n : Nat) : (a.add n).block = a.block := by unfold Addr.add; split <;> rfl
theorem add_add_ (a : Addr) (i j : Nat) : (a.add i).add j = a.add (i + j) := by
  unfold Addr.add
  by_cases hi : i = 0 <;> by_cases hj : j = 0 <;> simp [hi, hj, Nat.add_assoc]
theorem add_mk (g o n : Nat) : (⟨g, o, none⟩ : Addr).add n = ⟨g, o + n, none⟩ := by unfold Addr.add; split <;> simp_all

/-! ### Bits of numbers from 0 on -/
theorem ofInt_64 (a : Nat) (ha : a < 9223372036854775808) : (BitVec.ofInt 64 (a : Int)).toNat = a := by
  rw [BitVec.ofInt_natCast, BitVec.toNat_ofNat]; exact Nat.mod_eq_of_lt (by omega)
theorem i64_and (a b : Nat) (ha : a < 9223372036854775808) (hb : b < 9223372036854775808) : bits .and .i64 (a : Int) (b : Int) = ((a &&& b : Nat) : Int) := by
  have hx : a &&& b < 2 ^ 63 := Nat.and_lt_two_pow _ (by omega)
  show IntKind.i64.wrap ((BitVec.ofInt 64 (a : Int) &&& BitVec.ofInt 64 (b : Int)).toNat : Int) = _
  rw [BitVec.toNat_and, ofInt_64 a ha, ofInt_64 b hb, IntKind.wrap_i64]; omega
theorem i64_or (a b : Nat) (ha : a < 9223372036854775808) (hb : b < 9223372036854775808) : bits .or .i64 (a : Int) (b : Int) = ((a ||| b : Nat) : Int) := by
  have hx : a ||| b < 2 ^ 63 := Nat.or_lt_two_pow (by omega) (by omega)
  show IntKind.i64.wrap ((BitVec.ofInt 64 (a : Int) ||| BitVec.ofInt 64 (b : Int)).toNat : Int) = _
  rw [BitVec.toNat_or, ofInt_64 a ha, ofInt_64 b hb, IntKind.wrap_i64]; omega

/-! ### The elements of a slice as cells -/
structure El (α : Type) where
  e : TypeId
  size : Nat
  enc : α → List Value
  len : ∀ a, (enc a).length = size
  one : ∀ a, ∀ u ∈ enc a, u.oneCell' = true

/-- the slice type t over the elements E in the program P; one element takes 'bytes' bytes -/
structure Ty {α : Type} (P : Program) (t : TypeId) (E : El α) (zero : α) (bytes : Nat) : Prop where
  und : P.underlying t = some (.slice E.e)
  info : ∃ i z, P.info? E.e = some i ∧ i.zero = some z ∧ i.size = E.size ∧ i.bytes = bytes ∧ z.cells = (E.enc zero).toArray
  pos : 0 < E.size
theorem Ty.mk' {α : Type} {P : Program} {t : TypeId} {E : El α} {zero : α} {bytes : Nat} (z : Value) (hu : P.underlying t = some (.slice E.e))
    (hi : (P.info? E.e).map (fun i => (i.zero, i.size, i.bytes)) = some (some z, E.size, bytes)) (hz : z.cells = (E.enc zero).toArray) (hp : 0 < E.size) : Ty P t E zero bytes := by
  obtain ⟨i, h1, h2, h3, h4⟩ := info_parts hi
  exact ⟨hu, ⟨i, z, h1, h2, h3, h4, hz⟩, hp⟩

section
variable {α : Type} {E : El α}
def El.cells (E : El α) (l : List α) : List Value := l.flatMap E.enc
theorem El.cells_nil : E.cells [] = [] := rfl
theorem El.cells_append (l m : List α) : E.cells (l ++ m) = E.cells l ++ E.cells m := by simp [El.cells]
theorem El.cells_length (l : List α) : (E.cells l).length = l.length * E.size := by
  induction l with
  | nil => simp [El.cells]
  | cons a l ih =>
    have h : E.cells (a :: l) = E.enc a ++ E.cells l := rfl
    rw [h, List.length_append, ih, E.len, List.length_cons, Nat.add_mul]; omega
theorem El.cells_one (l : List α) : ∀ u ∈ E.cells l, u.oneCell' = true := by
  intro u hu
  obtain ⟨a, _, ha⟩ := List.mem_flatMap.1 hu
  exact E.one a u ha
theorem El.cells_at (l : List α) (k j : Nat) (hk : k < l.length) (hj : j < E.size) : (E.cells l)[k * E.size + j]? = (E.enc l[k])[j]? := by
  induction l generalizing k with
  | nil => simp at hk
  | cons a l ih =>
    have h : E.cells (a :: l) = E.enc a ++ E.cells l := rfl
    rw [h]
    cases k with
    | zero => rw [List.getElem?_append_left (by rw [E.len]; omega)]; simp
    | succ k =>
      have hp : E.size ≤ (k + 1) * E.size + j := by rw [Nat.add_mul]; omega
      rw [List.getElem?_append_right (by rw [E.len]; exact hp), E.len]
      have : (k + 1) * E.size + j - E.size = k * E.size + j := by rw [Nat.add_mul]; omega
      rw [this, ih k (by simpa using hk)]
      simp
theorem El.cells_drop (l : List α) (k : Nat) : (E.cells l).drop (k * E.size) = E.cells (l.drop k) := by
  induction l generalizing k with
  | nil => simp [El.cells]
  | cons a l ih =>
    have h : E.cells (a :: l) = E.enc a ++ E.cells l := rfl
    cases k with
    | zero => simp
    | succ k =>
      rw [h, List.drop_succ_cons, ← ih k, List.drop_append, E.len]
      have e1 : (k + 1) * E.size - E.size = k * E.size := by rw [Nat.add_mul]; omega
      rw [e1, List.drop_eq_nil_of_le (by rw [E.len, Nat.add_mul]; omega), List.nil_append]
theorem El.cells_take (l : List α) (k : Nat) : (E.cells l).take (k * E.size) = E.cells (l.take k) := by
  induction l generalizing k with
  | nil => simp [El.cells]
  | cons a l ih =>
    have h : E.cells (a :: l) = E.enc a ++ E.cells l := rfl
    cases k with
    | zero => simp [El.cells]
    | succ k =>
      have h2 : E.cells (a :: l.take k) = E.enc a ++ E.cells (l.take k) := rfl
      rw [h, List.take_succ_cons, h2, ← ih k, List.take_append, E.len]
      have e1 : (k + 1) * E.size - E.size = k * E.size := by rw [Nat.add_mul]; omega
      rw [e1, List.take_of_length_le (by rw [E.len, Nat.add_mul]; omega)]

/-! ### A slice that is read -/
/-- The slice at A reads as the list l. -/
def Rd (w : World) (E : El α) (A : Option Addr) (l : List α) : Prop :=
  (∀ ad, A = some ad → ad.spot = none ∧ ∃ cur fr, w.heap[ad.block]? = some (.cells cur E.e fr)) ∧
  (l ≠ [] → ∃ ad, A = some ad ∧ ∀ j u, (E.cells l)[j]? = some u → w.cell? (ad.add j) = some u)
variable {w w' : World} {A : Option Addr} {l : List α}
theorem Rd.nil (w : World) (E : El α) : Rd w E none [] := ⟨by simp, by simp⟩
theorem Rd.kept {r : Option Nat} (h : Rd w E A l) (hg : w.grownBy w' r) (hn : ∀ ad, A = some ad → some ad.block ≠ r) : Rd w' E A l := by
  refine ⟨fun ad ha => ?_, fun hl => ?_⟩
  · obtain ⟨hs, cur, fr, hc⟩ := h.1 ad ha
    exact ⟨hs, cur, fr, gb_heap hg hc (hn ad ha)⟩
  · obtain ⟨ad, ha, hc⟩ := h.2 hl
    exact ⟨ad, ha, fun j u hu => hg.cell (hc j u hu) (by rw [add_block]; exact hn ad ha)⟩
theorem Rd.kept0 (h : Rd w E A l) (hg : w.grownBy w' none) : Rd w' E A l := h.kept hg (by simp)
/-- another element type's block may have turned -/
theorem Rd.keptT {g : Nat} {t : TypeId} {cur : Array Value} {fr : Nat × Nat} (h : Rd w E A l) (hg : w.grownBy w' (some g)) (hb : w.heap[g]? = some (.cells cur t fr)) (hne : E.e ≠ t) : Rd w' E A l := by
  refine h.kept hg (fun ad ha e => ?_)
  obtain ⟨_, cur', fr', hc⟩ := h.1 ad ha
  have e' : ad.block = g := by simpa using e
  rw [e', hb] at hc
  simp at hc
  exact hne hc.2.1.symm
theorem Rd.lt {ad : Addr} (h : Rd w E (some ad) l) : ad.block < w.heap.size := by
  obtain ⟨_, cur, fr, hc⟩ := h.1 ad rfl
  exact lt_heap hc
theorem Rd.at_ (h : Rd w E A l) (k : Nat) (hk : k < l.length) : ∃ ad, A = some ad ∧ ∀ j u, (E.enc l[k])[j]? = some u → w.cell? (ad.add (k * E.size + j)) = some u := by
  obtain ⟨ad, ha, hc⟩ := h.2 (by intro h0; simp [h0] at hk)
  refine ⟨ad, ha, fun j u hu => hc _ u ?_⟩
  have hj : j < E.size := by
    rw [← E.len l[k]]
    exact (List.getElem?_eq_some_iff.1 hu).1
  rw [El.cells_at l k j hk hj]; exact hu
theorem Rd.drop (h : Rd w E A l) (k : Nat) : Rd w E (A.map (·.add (k * E.size))) (l.drop k) := by
  refine ⟨fun ad ha => ?_, fun hl => ?_⟩
  · cases A with
    | none => simp at ha
    | some a0 =>
      obtain ⟨hs, cur, fr, hc⟩ := h.1 a0 rfl
      simp at ha
      subst ha
      exact ⟨by unfold Addr.add; split <;> simp [hs], cur, fr, by rw [add_block]; exact hc⟩
  · obtain ⟨ad, rfl, hc⟩ := h.2 (by intro h0; simp [h0] at hl)
    refine ⟨ad.add (k * E.size), rfl, fun j u hu => ?_⟩
    rw [add_add_]
    refine hc _ u ?_
    rw [← El.cells_drop, List.getElem?_drop] at hu
    exact hu
theorem Rd.take (h : Rd w E A l) (k : Nat) : Rd w E A (l.take k) := by
  refine ⟨h.1, fun hl => ?_⟩
  obtain ⟨ad, rfl, hc⟩ := h.2 (by intro h0; simp [h0] at hl)
  refine ⟨ad, rfl, fun j u hu => hc j u ?_⟩
  rw [← El.cells_take, List.getElem?_take] at hu
  split at hu
  · exact hu
  · cases hu
/-- a block that is known whole -/
theorem Rd.of_block {g : Nat} {cur : List Value} {fr : Nat × Nat} (h : w.heap[g]? = some (.cells cur.toArray E.e fr)) (hc : E.cells l = cur) : Rd w E (some ⟨g, 0, none⟩) l := by
  subst hc
  refine ⟨fun ad ha => ?_, fun _ => ⟨_, rfl, fun j u hu => ?_⟩⟩
  · simp at ha; subst ha; exact ⟨rfl, _, _, h⟩
  · rw [add_mk, Nat.zero_add]
    simp [World.cell?, h, hu]

/-! ### A row that the call owns -/
def Ow (w : World) (base : Nat) (E : El α) (A : Option Addr) (c : Nat) (l : List α) : Prop := w.ownsRow base E.e E.size (.slice A l.length c) l.length (E.cells l)
variable {base c : Nat}
theorem Ow.nil (w : World) (base : Nat) (E : El α) : Ow w base E none 0 [] := World.ownsRow_nil w base E.e E.size
theorem Ow.rd (h : Ow w base E A c l) : Rd w E A l := by
  refine ⟨fun ad ha => ?_, fun hl => ?_⟩
  · subst ha
    rcases h.2 with ⟨hv, _⟩ | ⟨g, cap, cur, hv, _, hg, _⟩
    · simp at hv
    · simp at hv
      rw [hv.1]
      exact ⟨rfl, cur, _, hg⟩
  · rcases h.2 with ⟨hv, h0⟩ | ⟨g, cap, cur, hv, _, hg, _⟩
    · exact absurd (List.eq_nil_of_length_eq_zero h0) hl
    · simp at hv
      rw [hv.1]
      exact ⟨_, rfl, World.ownsRow.cells h (by rw [hv.1]; rfl)⟩
theorem Ow.ge (h : Ow w base E A c l) : ∀ ad, A = some ad → base ≤ ad.block ∧ ad.block < w.heap.size := by
  intro ad ha; subst ha; exact World.ownsRow.lt h _ rfl
theorem Ow.kept {r : Option Nat} (h : Ow w base E A c l) (hg : w.grownBy w' r) (hn : ∀ ad, A = some ad → some ad.block ≠ r) : Ow w' base E A c l := by
  refine World.ownsRow.kept h hg ?_
  cases A with
  | none => exact .inl rfl
  | some ad => exact .inr (by simpa [Value.ownBlock] using hn ad rfl)
theorem Ow.kept0 (h : Ow w base E A c l) (hg : w.grownBy w' none) : Ow w' base E A c l := h.kept hg (by simp)
theorem Ow.keptT {g : Nat} {t : TypeId} {cur : Array Value} {fr : Nat × Nat} (h : Ow w base E A c l) (hg : w.grownBy w' (some g)) (hb : w.heap[g]? = some (.cells cur t fr)) (hne : E.e ≠ t) : Ow w' base E A c l := by
  refine h.kept hg (fun ad ha e => ?_)
  obtain ⟨_, cur', fr', hc⟩ := h.rd.1 ad ha
  have e' : ad.block = g := by simpa using e
  rw [e', hb] at hc
  simp at hc
  exact hne hc.2.1.symm
theorem Ow.mono {b' : Nat} (h : Ow w base E A c l) (hb : b' ≤ base) : Ow w b' E A c l := by
  refine ⟨h.1, ?_⟩
  rcases h.2 with h0 | ⟨g, cap, cur, hv, hg, hr⟩
  · exact .inl h0
  · exact .inr ⟨g, cap, cur, hv, Nat.le_trans hb hg, hr⟩
theorem Ow.drew (h : Ow w base E A c l) : Ow w.drew base E A c l := h
theorem Ow.drewN (h : Ow w base E A c l) (n : Nat) : Ow (w.drewN n) base E A c l := h
theorem Ow.alloc (h : Ow w base E A c l) (o : Obj) : Ow (w.alloc o) base E A c l := World.ownsRow.alloc h o
/-- a literal's block, just laid -/
theorem Ow.lit (w : World) (cs : List Value) (hb : base ≤ w.heap.size) (hm : l.length ≤ maxLen) (hc : E.cells l = cs) : Ow (w.alloc (.cells cs.toArray E.e)) base E (some ⟨w.heap.size, 0, none⟩) l.length l := by
  subst hc
  refine ⟨El.cells_length l, .inr ⟨w.heap.size, l.length, _, rfl, hb, heap_alloc_new w _, Nat.le_refl _, hm, by simp [El.cells_length], ?_⟩⟩
  rw [List.take_of_length_le (by simp [El.cells_length])]
theorem Ow.cap_le (h : Ow w base E A c l) : l.length ≤ c ∧ c ≤ maxLen := by
  rcases h.2 with ⟨hv, h0⟩ | ⟨g, cap, cur, hv, _, _, h1, h2, _⟩
  · simp at hv; simp [hv]
  · simp at hv; rw [hv.2]; exact ⟨h1, h2⟩

/-- WHAT append DOES: onto an owned row, from whatever is read. -/
theorem run_app {P : Program} {t ty : TypeId} {bytes : Nat} {zero : α} (T : Ty P t E zero bytes) (h : Ow w base E A c l) {B : Option Addr} {d : Nat} {m : List α} (hr : Rd w E B m)
    (hb : (l.length + m.length) * bytes ≤ 140737488355328) (h63 : l.length + m.length ≤ maxLen) (hbase : base ≤ w.heap.size) :
    ∃ A' c' w', (Builtin.append_ #[t, t] ty #[.slice A l.length c, .slice B m.length d]).run P w = .ok (.slice A' (l ++ m).length c') w' ∧ Ow w' base E A' c' (l ++ m) ∧ w.grownBy w' (Value.ownBlock (.slice A l.length c)) := by
  obtain ⟨i, z, hi, hz, hs, hy, hzs'⟩ := T.info
  have hzs : z.cells.size = E.size := by rw [hzs']; simp [E.len]
  have fin : ∀ (v : Value) (w' : World), (∃ v0, v0 = v ∧ w'.ownsRow base E.e E.size v (l.length + m.length) (E.cells l ++ E.cells m)) → ∃ A' c', v = .slice A' (l ++ m).length c' ∧ Ow w' base E A' c' (l ++ m) := by
    rintro v w' ⟨_, _, hv⟩
    have hf : ∃ A' c', v = .slice A' (l ++ m).length c' := by
      rcases hv.2 with ⟨h1, h2⟩ | ⟨g, cap, cur, h1, _⟩
      · refine ⟨none, 0, ?_⟩
        rw [h1, List.length_append, h2]
      · exact ⟨_, cap, by rw [h1, List.length_append]⟩
    obtain ⟨A', c', rfl⟩ := hf
    refine ⟨A', c', rfl, ?_⟩
    unfold Ow
    rw [El.cells_append, List.length_append] at *
    exact hv
  cases B with
  | none =>
    have hm : m = [] := by
      rcases m with _ | ⟨x, m⟩
      · rfl
      · obtain ⟨ad, h0, _⟩ := hr.2 (by simp); cases h0
    subst hm
    have hrun : (Builtin.append_ #[t, t] ty #[.slice A l.length c, .slice none 0 d]).run P w = .ok (.slice A l.length c) w := by
      have hc := h.cap_le.1
      cases A with
      | none => simp [Builtin.append_, run_underlying T.und, sizeOf, typeInfo, hi, Builtin.lenOf, Builtin.firstCells, hc]
      | some a => simp [Builtin.append_, run_underlying T.und, sizeOf, typeInfo, hi, Builtin.lenOf, Builtin.firstCells, hc, storeCells]
    refine ⟨A, c, w, by simpa using hrun, by simpa using h, gb_refl _ _⟩
  | some ad =>
    have hcells : ∀ j u, (E.cells m)[j]? = some u → w.cell? (ad.add j) = some u := by
      intro j u hu
      obtain ⟨ad', h1, h2⟩ := hr.2 (by rintro rfl; simp [El.cells] at hu)
      injection h1 with h1; subst h1
      exact h2 j u hu
    obtain ⟨v', w', hrun, h2, h3, _⟩ := run_append_own (P := P) w base t ty E.e i z E.size bytes T.und hi hz hs hy hzs T.pos _ l.length (E.cells l) h ad m.length d (E.cells m) (El.cells_length m) hcells (El.cells_one m)
      h63 hb hbase
    obtain ⟨A', c', rfl, h4⟩ := fin v' w' ⟨_, rfl, h2⟩
    exact ⟨A', c', w', hrun, h4, h3⟩

theorem gb_app {w0 w1 w2 : World} {r : Option Nat} (h : w0.grownBy w1 r) (ho : Ow w1 base E A c l) (hb : w0.heap.size ≤ base) (k : w1.grownBy w2 (Value.ownBlock (.slice A l.length c))) : w0.grownBy w2 r := by
  refine gb_new h k (fun g hg => ?_)
  cases A with
  | none => simp [Value.ownBlock] at hg
  | some ad =>
    have := (ho.ge ad rfl).1
    simp [Value.ownBlock] at hg
    omega
/-- the arm for an append -/
theorem wp_app {P : Program} {ops : Array Oper} {rest : List Oper} {o : Oper} {a : Act} {Q : Exit → Act → World → Prop} (hgd : o.guard = none) (s x : Operand) (t : TypeId)
    (ho : o.op = .call { callee := .builtin .append, args := #[s, x], argTypes := #[t, t] }) {bytes : Nat} {zero : α} (T : Ty P t E zero bytes)
    (hs : a.eval s = .slice A l.length c) (h : Ow w base E A c l) {B : Option Addr} {d : Nat} {m : List α} (hx : a.eval x = .slice B m.length d) (hr : Rd w E B m)
    (hb : (l.length + m.length) * bytes ≤ 140737488355328) (h63 : l.length + m.length ≤ maxLen) (hbase : base ≤ w.heap.size)
    (h' : ∀ A' c' w', Ow w' base E A' c' (l ++ m) → w.grownBy w' (Value.ownBlock (.slice A l.length c)) → wpList P ops Q rest (a.put o.dst (.slice A' (l ++ m).length c')) w') : wpList P ops Q (o :: rest) a w := by
  refine wpList_plain hgd fun _ hK => ?_
  obtain ⟨A', c', w', hrun, h2, h3⟩ := run_app (ty := o.type) T h (d := d) hr hb h63 hbase
  unfold Oper.wp execOp
  simp only [ho, resolve, invoke, builtin, Sem.run_bind, Sem.run_pure, Result.andThen_ok, List.map_toArray, List.map_cons, List.map_nil, hs, hx, hrun]
  exact hK _ _ (h' A' c' w' h2 h3)
end

/-! ### make, copy -/
section
variable {α : Type} {E : El α} {w w' : World} {A : Option Addr} {l : List α} {base c : Nat}
theorem El.get_rep (z : α) (n j : Nat) (hp : 0 < E.size) : (E.cells (List.replicate n z))[j]? = if j < n * E.size then (E.enc z)[j % E.size]? else none := by
  by_cases h : j < n * E.size
  · rw [if_pos h]
    have h1 : j / E.size < n := Nat.div_lt_of_lt_mul (by rw [Nat.mul_comm]; exact h)
    have h2 : j % E.size < E.size := Nat.mod_lt _ hp
    have h3 := El.cells_at (E := E) (List.replicate n z) (j / E.size) (j % E.size) (by simpa using h1) h2
    have h4 : j / E.size * E.size + j % E.size = j := by rw [Nat.mul_comm]; exact Nat.div_add_mod j E.size
    rw [h4] at h3
    rw [h3, List.getElem_replicate]
  · rw [if_neg h, List.getElem?_eq_none]
    rw [El.cells_length, List.length_replicate]; omega
theorem El.made (z : α) (n : Nat) (hp : 0 < E.size) : madeCells (E.enc z).toArray (n * E.size) = (E.cells (List.replicate n z)).toArray := by
  apply Array.ext'
  apply List.ext_getElem?
  intro j
  have h0 := El.get_rep z n j hp
  rw [show (E.cells (List.replicate n z)).toArray.toList = E.cells (List.replicate n z) from rfl, h0]
  unfold madeCells
  by_cases h : j < n * E.size
  · rw [if_pos h]
    have h2 : j % E.size < E.size := Nat.mod_lt _ hp
    have h3 : j % (E.enc z).length < (E.enc z).length := by rw [E.len]; exact h2
    simp [h, E.len, h2]
  · rw [if_neg h]; simp [h]
theorem run_mk {P : Program} {t : TypeId} {bytes : Nat} {zero : α} (T : Ty P t E zero bytes) (kl kc : IntKind) (n m : Nat) (hnm : n ≤ m) (hb : bytes * m ≤ 281474976710656) (h63 : m ≤ 9223372036854775807) (W : World) :
    (Instr.makeSlice t (.int kl (n : Int)) (.int kc (m : Int))).run P W = .ok (.slice (some ⟨W.heap.size, 0, none⟩) n m) (W.alloc (.cells (E.cells (List.replicate m zero)).toArray E.e)) := by
  obtain ⟨i, z, hi, hz, hs, hy, hzs⟩ := T.info
  have hr := run_make (P := P) W t E.e i z T.und hi hz kl kc n m (by omega) (by omega) (by rw [hy]; have : ((bytes * m : Nat) : Int) ≤ 281474976710656 := by omega
                                                                                           rwa [Int.natCast_mul] at this) (by omega)
  simp only [Int.toNat_natCast] at hr
  rw [hr, hs, hzs, El.made _ _ T.pos]
theorem Ow.mk' (W : World) (zero : α) (n m : Nat) (hnm : n ≤ m) (hb : base ≤ W.heap.size) (hm : m ≤ maxLen) : Ow (W.alloc (.cells (E.cells (List.replicate m zero)).toArray E.e)) base E (some ⟨W.heap.size, 0, none⟩) m (List.replicate n zero) := by
  refine ⟨by rw [El.cells_length], .inr ⟨W.heap.size, m, _, rfl, hb, heap_alloc_new W _, by simpa using hnm, hm, by simp [El.cells_length], ?_⟩⟩
  have := El.cells_take (E := E) (List.replicate m zero) n
  rw [List.take_replicate, Nat.min_eq_left hnm] at this
  rw [← this]; simp
theorem gb_setRow (w : World) (g : Nat) (cs : Array Value) : w.grownBy (w.setRow g cs) (some g) :=
  ⟨rfl, rfl, rfl, by simp [World.setRow], fun k _ hn => setRow_other w g k _ (fun e => hn (by rw [e]))⟩
/-- the row, opened -/
theorem Ow.open_ {g : Nat} (h : Ow w base E (some ⟨g, 0, none⟩) c l) : base ≤ g ∧ ∃ cur, w.heap[g]? = some (.cells cur E.e (0, 0)) ∧ l.length ≤ c ∧ c ≤ maxLen ∧ cur.size = c * E.size ∧ cur.toList.take (l.length * E.size) = E.cells l := by
  rcases h.2 with ⟨hv, _⟩ | ⟨g', cap, cur, hv, hb, hg, h1, h2, h3, h4⟩
  · simp at hv
  · simp at hv
    obtain ⟨rfl, rfl⟩ := hv
    exact ⟨hb, cur, hg, h1, h2, h3, h4⟩
theorem Ow.addr (h : Ow w base E A c l) : A = none ∨ ∃ g, A = some ⟨g, 0, none⟩ := by
  rcases h.2 with ⟨hv, _⟩ | ⟨g', cap, cur, hv, _⟩
  · left; simp at hv; exact hv.1
  · right; simp at hv; exact ⟨g', hv.1⟩
theorem take_mid {β : Type} (xs ys cs : List β) (o : Nat) (ho : o + ys.length ≤ xs.length) (hx : cs.take xs.length = xs) :
    (cs.take o ++ ys ++ cs.drop (o + ys.length)).take xs.length = xs.take o ++ ys ++ xs.drop (o + ys.length) := by
  have hl : xs.length ≤ cs.length := by rw [← hx, List.length_take]; omega
  have e1 : cs.take o = xs.take o := by rw [← hx, List.take_take, Nat.min_eq_left (by omega)]
  have e2 : xs.drop (o + ys.length) = (cs.drop (o + ys.length)).take (xs.length - (o + ys.length)) := by
    conv => lhs; rw [← hx]
    rw [List.drop_take]
  rw [e1, e2, List.take_append, List.take_of_length_le (by simp; omega)]
  congr 2
  simp; omega
/-- WHAT copy DOES: into a part of an owned row, from whatever is read. -/
theorem run_cp {P : Program} {t t' ty : TypeId} {bytes : Nat} {zero : α} (T : Ty P t E zero bytes) {g : Nat} (h : Ow w base E (some ⟨g, 0, none⟩) c l) {B : Option Addr} {m : List α} (hr : Rd w E B m)
    (o dl dc d : Nat) (ho : o + dl ≤ l.length) :
    ∃ cs, (∀ W : World, W.heap = w.heap → (Builtin.copy_ #[t, t'] ty #[.slice (some ⟨g, o * E.size, none⟩) dl dc, .slice B m.length d]).run P W = .ok (goInt (Nat.min m.length dl)) (W.setRow g cs)) ∧
      ∀ W : World, W.heap = w.heap → Ow (W.setRow g cs) base E (some ⟨g, 0, none⟩) c (l.take o ++ m.take dl ++ l.drop (o + Nat.min m.length dl)) := by
  obtain ⟨i, z, hi, hz, hs, hy, hzs⟩ := T.info
  obtain ⟨hb, cur, hg, h1, h2, h3, h4⟩ := h.open_
  have hk : (m.take dl).length = Nat.min m.length dl := by rw [List.length_take, Nat.min_comm]
  have hlen : (E.cells (m.take dl)).length = Nat.min m.length dl * E.size := by rw [El.cells_length, hk]
  have hmin : Nat.min m.length dl ≤ dl := Nat.min_le_right _ _
  have hfit : o * E.size + (E.cells (m.take dl)).length ≤ cur.size := by
    rw [hlen, h3, ← Nat.add_mul]; exact Nat.mul_le_mul_right _ (by omega)
  have hfit2 : o * E.size + (E.cells (m.take dl)).length ≤ (E.cells l).length := by
    rw [hlen, El.cells_length, ← Nat.add_mul]; exact Nat.mul_le_mul_right _ (by omega)
  refine ⟨(cur.toList.take (o * E.size) ++ E.cells (m.take dl) ++ cur.toList.drop (o * E.size + (E.cells (m.take dl)).length)).toArray, ?_, ?_⟩
  · intro W hW
    have hg' : W.heap[g]? = some (.cells cur E.e (0, 0)) := by rw [hW]; exact hg
    have hst := run_storeCells_at P g (o * E.size) E.e (E.cells (m.take dl)) 0 cur W hg' (by simpa using hfit) (El.cells_one _)
    simp only [Nat.add_zero] at hst
    have hf : (Builtin.firstCells i.size (Nat.min m.length dl) (.slice B m.length d)).run P W = .ok (E.cells (m.take dl)).toArray W := by
      cases B with
      | none =>
        have hm : m = [] := by
          rcases m with _ | ⟨x, m⟩
          · rfl
          · obtain ⟨ad, h0, _⟩ := hr.2 (by simp); cases h0
        subst hm
        simp [Builtin.firstCells, El.cells]
      | some ad =>
        have := run_loadCells_list (P := P) W ad (E.cells (m.take dl)) (fun j v hj => by
          obtain ⟨ad', h5, h6⟩ := (hr.take dl).2 (by rintro h0; rw [h0] at hj; simp [El.cells] at hj)
          injection h5 with h5; subst h5
          have := h6 j v hj
          unfold World.cell? at this ⊢
          rw [hW]; exact this)
        rw [hlen, ← hs] at this
        simpa [Builtin.firstCells] using this
    simp [Builtin.copy_, run_underlying T.und, sizeOf, typeInfo, hi, Builtin.lenOf, hf, hst]
  · intro W hW
    have hg' : W.heap[g]? = some (.cells cur E.e (0, 0)) := by rw [hW]; exact hg
    have hll : (l.take o ++ m.take dl ++ l.drop (o + Nat.min m.length dl)).length = l.length := by
      rw [List.length_append, List.length_append, hk, List.length_take, List.length_drop]; omega
    have hcells : E.cells (l.take o ++ m.take dl ++ l.drop (o + Nat.min m.length dl)) = (E.cells l).take (o * E.size) ++ E.cells (m.take dl) ++ (E.cells l).drop (o * E.size + (E.cells (m.take dl)).length) := by
      rw [El.cells_append, El.cells_append, El.cells_take, hlen, ← Nat.add_mul, El.cells_drop]
    refine ⟨by rw [El.cells_length], .inr ⟨g, c, _, by rw [hll], hb, setRow_heap W g cur _ E.e _ hg', by rw [hll]; exact h1, h2, ?_, ?_⟩⟩
    · simp only [List.size_toArray, List.length_append, List.length_take, List.length_drop, Array.length_toList]
      omega
    · rw [hcells, hll]
      have := take_mid (E.cells l) (E.cells (m.take dl)) cur.toList (o * E.size) hfit2 (by rw [El.cells_length]; exact h4)
      rw [El.cells_length] at this
      simpa using this
end

/-! ### The element types -/
def elB : El UInt8 := ⟨5, 1, fun b => [.int .u8 b.toNat], fun _ => rfl, by simp [Value.oneCell']⟩
def elI : El Int := ⟨3, 1, fun z => [.int .i64 z], fun _ => rfl, by simp [Value.oneCell']⟩
theorem tyB : Ty Try.prog 27 elB 0 1 := Ty.mk' (.int .u8 0) Try.underlying27 (by kernel_rfl) rfl (by decide)
theorem tyI : Ty Try.prog 22 elI 0 8 := Ty.mk' (.int .i64 0) Try.underlying22 (by kernel_rfl) rfl (by decide)
theorem elB_cells (l : List UInt8) : elB.cells l = l.map (fun b => Value.int .u8 b.toNat) := by
  induction l with
  | nil => rfl
  | cons a l ih =>
    have : elB.cells (a :: l) = Value.int .u8 a.toNat :: elB.cells l := rfl
    rw [this, ih]; rfl
theorem elI_cells (l : List Int) : elI.cells l = l.map (Value.int .i64) := by
  induction l with
  | nil => rfl
  | cons a l ih =>
    have : elI.cells (a :: l) = Value.int .i64 a :: elI.cells l := rfl
    rw [this, ih]; rfl
/-- one element of one cell -/
theorem rdB_at {w : World} {A : Option Addr} {l : List UInt8} (h : Rd w elB A l) (k : Nat) (hk : k < l.length) : ∃ ad, A = some ad ∧ w.cell? (ad.add k) = some (.int .u8 (l[k].toNat : Int)) := by
  obtain ⟨ad, h1, h2⟩ := h.at_ k hk
  exact ⟨ad, h1, by simpa [elB] using h2 0 _ rfl⟩
theorem rdI_at {w : World} {A : Option Addr} {l : List Int} (h : Rd w elI A l) (k : Nat) (hk : k < l.length) : ∃ ad, A = some ad ∧ w.cell? (ad.add k) = some (.int .i64 l[k]) := by
  obtain ⟨ad, h1, h2⟩ := h.at_ k hk
  exact ⟨ad, h1, by simpa [elI] using h2 0 _ rfl⟩
end Go.Proofs.Ytdbieohfojgbgaa
