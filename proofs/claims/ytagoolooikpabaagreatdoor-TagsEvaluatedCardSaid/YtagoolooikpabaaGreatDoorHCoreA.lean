/- Several texts in one: The walk's plain heap: values and objects as plain data, what it says of a world, and what each operation does to it, and what follows. No condition. -/
import Derived.Calls
import Derived.Orders
import Derived.Below
import Derived.IntWalk
import Derived.Laws.Cells
import Derived.Laws.CopyRow
import Derived.Laws.AppendOwn
import Derived.Laws.Externs
import Derived.Laws.StructEq
import Derived.Laws.Tables
import Derived.Laws.MakeOwn
import Derived.Maps.AppendAt
import Derived.Lib.AppendZeros
import Derived.Lib.AppendStr
set_option linter.all false
namespace Go.Proofs.YtagoolooikpabaaGreatDoor
open Go Go.RowKit
theorem gO {P Q : Prop} (q : Q) (h : P = Q := by simp (disch := first | omega | (simp only [go_sem]; try omega)) only [go_sem]; rfl) : P := h ▸ q
theorem gO1 {A1 P Q : Prop} (x1 : A1) (q : Q) (h : A1 → P = Q := by intro a1; simp (disch := first | omega | (simp only [go_sem]; try omega)) only [go_sem, a1]; rfl) : P := h x1 ▸ q
theorem gO2 {A1 A2 P Q : Prop} (x1 : A1) (x2 : A2) (q : Q) (h : A1 → A2 → P = Q := by intro a1 a2; simp (disch := first | omega | (simp only [go_sem]; try omega)) only [go_sem, a1, a2]; rfl) : P := h x1 x2 ▸ q
theorem gO3 {A1 A2 A3 P Q : Prop} (x1 : A1) (x2 : A2) (x3 : A3) (q : Q) (h : A1 → A2 → A3 → P = Q := by intro a1 a2 a3; simp (disch := first | omega | (simp only [go_sem]; try omega)) only [go_sem, a1, a2, a3]; rfl) : P := h x1 x2 x3 ▸ q
theorem gO4 {A1 A2 A3 A4 P Q : Prop} (x1 : A1) (x2 : A2) (x3 : A3) (x4 : A4) (q : Q) (h : A1 → A2 → A3 → A4 → P = Q := by intro a1 a2 a3 a4; simp (disch := first | omega | (simp only [go_sem]; try omega)) only [go_sem, a1, a2, a3, a4]; rfl) : P := h x1 x2 x3 x4 ▸ q
theorem gT {P : Prop} (h : P := by simp (disch := first | omega | (simp only [go_sem]; try omega)) only [go_sem]) : P := h
theorem oMg {P : Prop} (h : P := by omega) : P := h
theorem sMp {P : Prop} (h : P := by simp) : P := h
theorem lRf {n : Nat} : n ≤ n := Nat.le_refl _
/-! ### Plain values -/
inductive AC where
 | int (k : IntKind) (n : Int)
 | bool (b : Bool)
 | str (s : ByteArray)
 | ptr (r : Option (Nat × Nat × Nat))
 | sl (r : Option (Nat × Nat)) (n : Nat)
 | map (r : Option Nat)
 | nilf
 | fn (f : FuncId) (first caps : List (Nat × Nat × Nat))
 | lst (sz : Nat) (els : List (List AC))
 | fp (cs : List AC)
 | nili
 | ifc
inductive AV where
 | c (x : AC)
 | agg (cs : List AC)
 | tup (vs : List AV)
 | any
instance : Inhabited AC := ⟨.nilf⟩
instance : Inhabited AV := ⟨.any⟩
inductive AObj where
 | row (ty sz : Nat) (els : List (List AC)) (own : Bool)
 | map (bs : List Nat) (vt : Nat) (es : List (AV × AV))
 | dead
structure Loc where
 block : Nat
 off : Nat
 sz : Nat
 cap : Nat
instance : Inhabited Loc := ⟨⟨0, 0, 0, 0⟩⟩
def Loc.at (L : Loc) (k j : Nat) : Addr := ⟨L.block, L.off + (k * L.sz + j), none⟩
structure En where
 loc : Nat → Loc
 fz : Nat → Nat → Option Value
instance : CoeFun En (fun _ => Nat → Loc) := ⟨En.loc⟩
def ptrOf (ι : En) (p : Nat × Nat × Nat) : Value := .pointer (some ((ι p.1).at p.2.1 p.2.2))
/-! what is frozen is read whole -/
mutual
def AC.relZ (Z : Nat → Nat → Option Value) : AC → Value → Prop
 | .int k n, v => v = .int k n
 | .bool b, v => v = .bool b
 | .str s, v => v = .string s
 | .ptr none, v => v = .pointer none
 | .ptr (some _), _ => False
 | .sl none n, v => n = 0 ∧ v = .slice none 0 0
 | .sl (some _) _, _ => False
 | .map none, v => v = .map none
 | .map (some _), _ => False
 | .nilf, v => v = .nilFunc
 | .nili, v => v = .nilIface
 | .ifc, v => ∃ t u, v = .iface t u
 | .fn f fs cs, v => fs = [] ∧ cs = [] ∧ v = .func (.func f) #[] #[]
 | .lst sz els, v => ∃ p c, v = .slice p els.length c ∧ els.length ≤ c ∧ (∀ e ∈ els, e.length = sz) ∧ (p = none → els = [] ∧ c = 0) ∧ ∀ a, p = some a → (els = [] ∨ a.spot = none) ∧ relRows Z els a.block a.off sz
 | .fp cs, v => ∃ b o, v = .pointer (some ⟨b, o, none⟩) ∧ relCells Z cs b o
def relCells (Z : Nat → Nat → Option Value) : List AC → Nat → Nat → Prop
 | [], _, _ => True
 | x :: xs, b, o => (∃ u, Z b o = some u ∧ x.relZ Z u) ∧ relCells Z xs b (o + 1)
def relRows (Z : Nat → Nat → Option Value) : List (List AC) → Nat → Nat → Nat → Prop
 | [], _, _, _ => True
 | e :: es, b, o, sz => relCells Z e b o ∧ relRows Z es b (o + sz) sz
end
def AC.rel (ι : En) : AC → Value → Prop
 | .int k n, v => v = .int k n
 | .bool b, v => v = .bool b
 | .str s, v => v = .string s
 | .ptr none, v => v = .pointer none
 | .ptr (some p), v => v = ptrOf ι p
 | .sl none n, v => n = 0 ∧ v = .slice none 0 0
 | .sl (some (i, k)) n, v => ∃ a, v = .slice (some a) n ((ι i).cap - k) ∧ k + n ≤ (ι i).cap ∧ ((ι i).cap - k ≠ 0 ∨ k = 0 → a = (ι i).at k 0)
 | .map none, v => v = .map none
 | .map (some i), v => v = .map (some (ι i).block)
 | .nilf, v => v = .nilFunc
 | .nili, v => v = .nilIface
 | .ifc, v => ∃ t u, v = .iface t u
 | .fn f fs cs, v => v = .func (.func f) (fs.map (ptrOf ι)).toArray (cs.map (ptrOf ι)).toArray
 | .lst sz els, v => AC.relZ ι.fz (.lst sz els) v
 | .fp cs, v => AC.relZ ι.fz (.fp cs) v
def AC.ok (n : Nat) : AC → Prop
 | .ptr (some p) => p.1 < n
 | .sl (some (i, _)) _ => i < n
 | .map (some i) => i < n
 | .fn _ fs cs => (∀ p ∈ fs, p.1 < n) ∧ ∀ p ∈ cs, p.1 < n
 | _ => True
def relL (ι : En) : List AC → List Value → Prop
 | [], [] => True
 | x :: xs, v :: vs => x.rel ι v ∧ relL ι xs vs
 | _, _ => False
def AV.rel1 (ι : En) : AV → Value → Prop
 | .c x, v => x.rel ι v
 | .agg cs, v => ∃ vs : List Value, v = .agg vs.toArray ∧ relL ι cs vs
 | .any, _ => True
 | .tup _, _ => False
def rel1L (ι : En) : List AV → List Value → Prop
 | [], [] => True
 | x :: xs, v :: vs => x.rel1 ι v ∧ rel1L ι xs vs
 | _, _ => False
def AV.rel (ι : En) : AV → Value → Prop
 | .tup ts, v => ∃ vs : List Value, v = .tuple vs.toArray ∧ rel1L ι ts vs
 | x, v => x.rel1 ι v
def AV.ok1 (n : Nat) : AV → Prop
 | .c x => x.ok n
 | .agg cs => ∀ x ∈ cs, x.ok n
 | _ => True
def AV.ok (n : Nat) : AV → Prop
 | .tup ts => ∀ x ∈ ts, x.ok1 n
 | x => x.ok1 n
def ZLe (Z Z' : Nat → Nat → Option Value) : Prop := ∀ b o v, Z b o = some v → Z' b o = some v
structure Agree (n : Nat) (ι ι' : En) : Prop where
 loc : ∀ i, i < n → ι' i = ι i
 fz : ZLe ι.fz ι'.fz
theorem Agree.refl (n : Nat) (ι : En) : Agree n ι ι := ⟨fun _ _ => rfl, fun _ _ _ h => h⟩
theorem Agree.trans {n m : Nat} {a b c : En} (h : Agree n a b) (k : Agree m b c) (hm : n ≤ m) : Agree n a c := ⟨fun i hi => (k.loc i oMg).trans (h.loc i hi), fun x y v hv => k.fz x y v (h.fz x y v hv)⟩
theorem Agree.le {n m : Nat} {a b : En} (h : Agree m a b) (hm : n ≤ m) : Agree n a b := ⟨fun i hi => h.loc i oMg, h.fz⟩
mutual
theorem AC.relZ_mono {Z Z' : Nat → Nat → Option Value} (h : ZLe Z Z') : ∀ (x : AC) (v : Value), x.relZ Z v → x.relZ Z' v
 | .int k n, v, hr => hr
 | .bool b, v, hr => hr
 | .str s, v, hr => hr
 | .ptr none, v, hr => hr
 | .ptr (some _), _, hr => hr
 | .sl none n, v, hr => hr
 | .sl (some _) _, _, hr => hr
 | .map none, v, hr => hr
 | .map (some _), _, hr => hr
 | .nilf, v, hr => hr
 | .nili, v, hr => hr
 | .ifc, v, hr => hr
 | .fn f fs cs, v, hr => hr
 | .lst sz els, v, hr => by
  simp only [AC.relZ] at hr ⊢
  obtain ⟨p, c, h1, h2, h3, h4, h5⟩ := hr
  exact ⟨p, c, h1, h2, h3, h4, fun a ha => ⟨(h5 a ha).1, relRows_mono h els _ _ _ (h5 a ha).2⟩⟩
 | .fp cs, v, hr => by
  simp only [AC.relZ] at hr ⊢
  obtain ⟨b, o, h1, h2⟩ := hr
  exact ⟨b, o, h1, relCells_mono h cs _ _ h2⟩
theorem relCells_mono {Z Z' : Nat → Nat → Option Value} (h : ZLe Z Z') : ∀ (xs : List AC) (b o : Nat), relCells Z xs b o → relCells Z' xs b o
 | [], _, _, _ => trivial
 | x :: xs, b, o, hr => by
  simp only [relCells] at hr ⊢
  obtain ⟨⟨u, h1, h2⟩, h3⟩ := hr
  exact ⟨⟨u, h _ _ _ h1, AC.relZ_mono h x u h2⟩, relCells_mono h xs _ _ h3⟩
theorem relRows_mono {Z Z' : Nat → Nat → Option Value} (h : ZLe Z Z') : ∀ (es : List (List AC)) (b o sz : Nat), relRows Z es b o sz → relRows Z' es b o sz
 | [], _, _, _, _ => trivial
 | e :: es, b, o, sz, hr => by
  simp only [relRows] at hr ⊢
  exact ⟨relCells_mono h e _ _ hr.1, relRows_mono h es _ _ _ hr.2⟩
end
theorem relCells_get {Z : Nat → Nat → Option Value} : ∀ {xs : List AC} {b o : Nat}, relCells Z xs b o → ∀ (j : Nat) (x : AC), xs[j]? = some x → ∃ u, Z b (o + j) = some u ∧ x.relZ Z u
 | [], _, _, _, j, x, h => by simp at h
 | y :: xs, b, o, hr, 0, x, h => by
  simp at h; subst h
  simp only [relCells] at hr
  exact hr.1
 | y :: xs, b, o, hr, j + 1, x, h => by
  simp at h
  simp only [relCells] at hr
  have := relCells_get hr.2 j x h
  rwa [Nat.add_assoc, Nat.add_comm 1 j] at this
theorem relCells_of {Z : Nat → Nat → Option Value} : ∀ {xs : List AC} {b o : Nat}, (∀ (j : Nat) (x : AC), xs[j]? = some x → ∃ u, Z b (o + j) = some u ∧ x.relZ Z u) → relCells Z xs b o
 | [], _, _, _ => by simp [relCells]
 | y :: xs, b, o, h => by
  simp only [relCells]
  exact ⟨h 0 y rfl, relCells_of fun j x hj => by
   have := h (j + 1) x (by simpa using hj)
   rwa [Nat.add_comm j 1, ← Nat.add_assoc] at this⟩
theorem relCells_drop {Z : Nat → Nat → Option Value} {xs : List AC} {b o : Nat} (h : relCells Z xs b o) (k : Nat) : relCells Z (xs.drop k) b (o + k) :=
 relCells_of fun j x hj => by
  rw [List.getElem?_drop] at hj
  have := relCells_get h (k + j) x hj
  rwa [← Nat.add_assoc] at this
theorem relRows_get {Z : Nat → Nat → Option Value} : ∀ {es : List (List AC)} {b o sz : Nat}, relRows Z es b o sz → ∀ (k : Nat) (e : List AC), es[k]? = some e → relCells Z e b (o + k * sz)
 | [], _, _, _, _, k, e, h => by simp at h
 | x :: es, b, o, sz, hr, 0, e, h => by
  simp at h; subst h
  simp only [relRows] at hr
  simpa using hr.1
 | x :: es, b, o, sz, hr, k + 1, e, h => by
  simp at h
  simp only [relRows] at hr
  have := relRows_get hr.2 k e h
  rwa [Nat.add_mul, Nat.one_mul, Nat.add_comm (k * sz) sz, ← Nat.add_assoc]
theorem relRows_of {Z : Nat → Nat → Option Value} : ∀ {es : List (List AC)} {b o sz : Nat}, (∀ (k : Nat) (e : List AC), es[k]? = some e → relCells Z e b (o + k * sz)) → relRows Z es b o sz
 | [], _, _, _, _ => by simp [relRows]
 | x :: es, b, o, sz, h => by
  simp only [relRows]
  refine ⟨by simpa using h 0 x rfl, relRows_of fun k e hk => ?_⟩
  have := h (k + 1) e (by simpa using hk)
  rwa [Nat.add_mul, Nat.one_mul, Nat.add_comm (k * sz) sz, ← Nat.add_assoc] at this
theorem ptrOf_agree {n : Nat} {ι ι' : En} (h : Agree n ι ι') {p : Nat × Nat × Nat} (hp : p.1 < n) : ptrOf ι' p = ptrOf ι p := by
 unfold ptrOf; rw [h.loc _ hp]
theorem AC.rel_agree {n : Nat} {ι ι' : En} (h : Agree n ι ι') {x : AC} {v : Value} (hx : x.ok n) (hr : x.rel ι v) : x.rel ι' v := by
 cases x with
 | int k m => exact hr
 | bool b => exact hr
 | str s => exact hr
 | nilf => exact hr
 | nili => exact hr
 | ifc => exact hr
 | ptr r =>
  cases r with
  | none => exact hr
  | some p => simp only [AC.rel, AC.ok] at *; rw [ptrOf_agree h hx]; exact hr
 | sl r m =>
  cases r with
  | none => exact hr
  | some p => obtain ⟨i, k⟩ := p; simp only [AC.rel, AC.ok] at *; rw [h.loc i hx]; exact hr
 | lst sz els => exact AC.relZ_mono h.fz (.lst sz els) v hr
 | fp cs => exact AC.relZ_mono h.fz (.fp cs) v hr
 | map r =>
  cases r with
  | none => exact hr
  | some i => simp only [AC.rel, AC.ok] at *; rw [h.loc i hx]; exact hr
 | fn f fs cs =>
  simp only [AC.rel, AC.ok] at *
  rw [hr, List.map_congr_left (fun p hp => ptrOf_agree h (hx.1 p hp)), List.map_congr_left (fun p hp => ptrOf_agree h (hx.2 p hp))]
theorem relL_agree {n : Nat} {ι ι' : En} (h : Agree n ι ι') : ∀ {xs : List AC} {vs : List Value}, (∀ x ∈ xs, x.ok n) → relL ι xs vs → relL ι' xs vs
 | [], [], _, _ => trivial
 | [], _ :: _, _, hr => hr
 | _ :: _, [], _, hr => hr
 | x :: xs, v :: vs, hx, hr => ⟨AC.rel_agree h (hx x sMp) hr.1, relL_agree h (fun y hy => hx y (by simp [hy])) hr.2⟩
theorem AV.rel1_agree {n : Nat} {ι ι' : En} (h : Agree n ι ι') {x : AV} {v : Value} (hx : x.ok1 n) (hr : x.rel1 ι v) : x.rel1 ι' v := by
 cases x with
 | c x => exact AC.rel_agree h hx hr
 | agg cs => obtain ⟨vs, rfl, h2⟩ := hr; exact ⟨vs, rfl, relL_agree h hx h2⟩
 | any => trivial
 | tup ts => exact hr
theorem rel1L_agree {n : Nat} {ι ι' : En} (h : Agree n ι ι') : ∀ {xs : List AV} {vs : List Value}, (∀ x ∈ xs, x.ok1 n) → rel1L ι xs vs → rel1L ι' xs vs
 | [], [], _, _ => trivial
 | [], _ :: _, _, hr => hr
 | _ :: _, [], _, hr => hr
 | x :: xs, v :: vs, hx, hr => ⟨AV.rel1_agree h (hx x sMp) hr.1, rel1L_agree h (fun y hy => hx y (by simp [hy])) hr.2⟩
theorem AV.rel_agree {n : Nat} {ι ι' : En} (h : Agree n ι ι') {x : AV} {v : Value} (hx : x.ok n) (hr : x.rel ι v) : x.rel ι' v := by
 cases x with
 | c x => exact AC.rel_agree h hx hr
 | agg cs => exact AV.rel1_agree (x := .agg cs) h hx hr
 | any => trivial
 | tup ts => obtain ⟨vs, rfl, h2⟩ := hr; exact ⟨vs, rfl, rel1L_agree h hx h2⟩
theorem AC.ok_mono {n m : Nat} (h : n ≤ m) {x : AC} (hx : x.ok n) : x.ok m := by
 cases x with
 | ptr r => cases r with | none => trivial | some p => exact Nat.lt_of_lt_of_le hx h
 | sl r k => cases r with | none => trivial | some p => exact Nat.lt_of_lt_of_le (show p.1 < n from hx) h
 | map r => cases r with | none => trivial | some p => exact Nat.lt_of_lt_of_le hx h
 | fn f fs cs => exact ⟨fun p hp => Nat.lt_of_lt_of_le (hx.1 p hp) h, fun p hp => Nat.lt_of_lt_of_le (hx.2 p hp) h⟩
 | _ => trivial
theorem AV.ok1_mono {n m : Nat} (h : n ≤ m) {x : AV} (hx : x.ok1 n) : x.ok1 m := by
 cases x with
 | c x => exact AC.ok_mono h hx
 | agg cs => exact fun x hx' => AC.ok_mono h (hx x hx')
 | _ => trivial
theorem AV.ok_mono {n m : Nat} (h : n ≤ m) {x : AV} (hx : x.ok n) : x.ok m := by
 cases x with
 | c x => exact AC.ok_mono h hx
 | agg cs => exact fun x hx' => AC.ok_mono h (hx x hx')
 | any => trivial
 | tup ts => exact fun x hx' => AV.ok1_mono h (hx x hx')
theorem relL_len {ι : En} : ∀ {xs : List AC} {vs : List Value}, relL ι xs vs → xs.length = vs.length
 | [], [], _ => rfl
 | _ :: _, _ :: _, h => by simp [relL_len h.2]
theorem relL_get {ι : En} : ∀ {xs : List AC} {vs : List Value}, relL ι xs vs → ∀ (j : Nat) (x : AC), xs[j]? = some x → ∃ v, vs[j]? = some v ∧ x.rel ι v
 | [], [], _, j, x, h => by simp at h
 | x :: xs, v :: vs, hr, 0, y, h => ⟨v, rfl, by simp at h; subst h; exact hr.1⟩
 | x :: xs, v :: vs, hr, j + 1, y, h => by simp at h; exact relL_get hr.2 j y h
theorem relL_append {ι : En} : ∀ {xs ys : List AC} {vs us : List Value}, relL ι xs vs → relL ι ys us → relL ι (xs ++ ys) (vs ++ us)
 | [], _, [], _, _, h => h
 | _ :: _, _, _ :: _, _, h, k => ⟨h.1, relL_append h.2 k⟩
theorem relL_take {ι : En} : ∀ {xs : List AC} {vs : List Value} (n : Nat), relL ι xs vs → relL ι (xs.take n) (vs.take n)
 | [], [], n, _ => by simp [relL]
 | x :: xs, v :: vs, 0, h => by simp [relL]
 | x :: xs, v :: vs, n + 1, h => ⟨h.1, relL_take n h.2⟩
theorem relL_drop {ι : En} : ∀ {xs : List AC} {vs : List Value} (n : Nat), relL ι xs vs → relL ι (xs.drop n) (vs.drop n)
 | [], [], n, _ => by simp [relL]
 | x :: xs, v :: vs, 0, h => h
 | x :: xs, v :: vs, n + 1, h => relL_drop n h.2
theorem AC.rel_one {ι : En} {x : AC} {v : Value} (h : x.rel ι v) : v.oneCell' = true := by
 cases x with
 | ptr r => cases r <;> (simp only [AC.rel] at h; subst h; rfl)
 | sl r n =>
  cases r with
  | none => obtain ⟨_, rfl⟩ := h; rfl
  | some p => obtain ⟨a, rfl, _⟩ := h; rfl
 | map r => cases r <;> (simp only [AC.rel] at h; subst h; rfl)
 | lst sz els => simp only [AC.rel, AC.relZ] at h; obtain ⟨p, c, rfl, _⟩ := h; rfl
 | fp cs => simp only [AC.rel, AC.relZ] at h; obtain ⟨b, o, rfl, _⟩ := h; rfl
 | ifc => simp only [AC.rel] at h; obtain ⟨t, u, rfl⟩ := h; rfl
 | _ => simp only [AC.rel] at h; subst h; rfl
theorem AC.rel_of_relZ {ι : En} {x : AC} {v : Value} (h : x.relZ ι.fz v) : x.rel ι v := by
 cases x with
 | ptr r => cases r <;> first | exact h | (simp only [AC.relZ] at h)
 | sl r n => cases r <;> first | exact h | (simp only [AC.relZ] at h)
 | map r => cases r <;> first | exact h | (simp only [AC.relZ] at h)
 | fn f fs cs => simp only [AC.relZ] at h; obtain ⟨rfl, rfl, rfl⟩ := h; simp [AC.rel]
 | _ => exact h
def AC.pure : AC → Bool
 | .ptr (some _) => false
 | .sl (some _) _ => false
 | .map (some _) => false
 | .fn _ fs cs => fs.isEmpty && cs.isEmpty
 | _ => true
theorem AC.relZ_of_rel {ι : En} {x : AC} {v : Value} (hp : x.pure = true) (h : x.rel ι v) : x.relZ ι.fz v := by
 cases x with
 | ptr r => cases r <;> first | exact h | (simp [AC.pure] at hp)
 | sl r n => cases r <;> first | exact h | (simp [AC.pure] at hp)
 | map r => cases r <;> first | exact h | (simp [AC.pure] at hp)
 | fn f fs cs =>
  simp only [AC.pure, Bool.and_eq_true, List.isEmpty_iff] at hp
  obtain ⟨rfl, rfl⟩ := hp
  simp only [AC.rel, AC.relZ] at h ⊢
  exact ⟨trivial, trivial, by simpa using h⟩
 | _ => exact h
theorem AC.ok_of_relZ {Z : Nat → Nat → Option Value} {x : AC} {v : Value} (h : x.relZ Z v) (n : Nat) : x.ok n := by
 cases x with
 | ptr r => cases r <;> first | trivial | (simp only [AC.relZ] at h)
 | sl r n => cases r <;> first | trivial | (simp only [AC.relZ] at h)
 | map r => cases r <;> first | trivial | (simp only [AC.relZ] at h)
 | fn f fs cs => simp only [AC.relZ] at h; obtain ⟨rfl, rfl, _⟩ := h; exact ⟨by simp, by simp⟩
 | _ => trivial
theorem AC.ok_of_pure {x : AC} (hp : x.pure = true) (n : Nat) : x.ok n := by
 cases x with
 | ptr r => cases r <;> first | trivial | (simp [AC.pure] at hp)
 | sl r n => cases r <;> first | trivial | (simp [AC.pure] at hp)
 | map r => cases r <;> first | trivial | (simp [AC.pure] at hp)
 | fn f fs cs =>
  simp only [AC.pure, Bool.and_eq_true, List.isEmpty_iff] at hp
  obtain ⟨rfl, rfl⟩ := hp
  exact ⟨by simp, by simp⟩
 | _ => trivial
/-! ### The heap -/
def AObj.okN (n : Nat) : AObj → Prop
 | .row _ sz els _ => ∀ e ∈ els, e.length = sz ∧ ∀ x ∈ e, x.ok n
 | .map _ _ es => ∀ p : AV × AV, p ∈ es → p.1.ok n ∧ p.2.ok n
 | .dead => True
def AObj.owned : AObj → Bool
 | .row _ _ _ own => own
 | .map _ _ _ => true
 | .dead => false
def AObj.live : AObj → Bool
 | .dead => false
 | _ => true
def mapHolds (ι : En) (bs : List Nat) (vt : Nat) (es : List (AV × AV)) (ob : Obj) : Prop := match vt with
 | 0 => ∃ (b since last : Nat) (seen : Array Nat), ob = .mapIter (some b) since seen last ∧ since :: last :: seen.toList = bs ∧ ∃ p, es = [p] ∧ AV.rel ι p.1 (.map (some b))
 | c + 1 => ∃ entries : Array MapEntry, ob = .map entries c ∧ entries.toList.map (·.born) = bs ∧ entries.size = es.length ∧
   ∀ (i : Nat) (p : AV × AV), es[i]? = some p → ∃ m, entries[i]? = some m ∧ p.1.rel ι m.key ∧ p.2.rel ι m.val
def AObj.holds (ι : En) (w : World) (L : Loc) : AObj → Prop
 | .row ty sz els own => L.sz = sz ∧ els.length ≤ L.cap ∧ ∃ cur fr, w.heap[L.block]? = some (.cells cur ty fr) ∧
   (∀ (k : Nat) (e : List AC), els[k]? = some e → ∀ (j : Nat) (x : AC), e[j]? = some x → ∃ u, cur[L.off + (k * sz + j)]? = some u ∧ x.rel ι u) ∧
   (own = true → fr = (0, 0) ∧ L.off = 0 ∧ cur.size = L.cap * sz ∧ L.cap ≤ maxLen)
 | .map bs vt es => L.off = 0 ∧ ∃ ob, w.heap[L.block]? = some ob ∧ mapHolds ι bs vt es ob
 | .dead => True
abbrev Hp := List AObj
abbrev Fr := Nat → AV
structure Bel (B : Nat → Prop) (w w' : World) : Prop where
 os : w'.os = w.os
 tape : w'.tape = w.tape
 output : w'.output = w.output
 size : w.heap.size ≤ w'.heap.size
 block : ∀ k, B k → w'.heap[k]? = w.heap[k]?
theorem Bel.refl (B : Nat → Prop) (w : World) : Bel B w w := ⟨rfl, rfl, rfl, Nat.le_refl _, fun _ _ => rfl⟩
theorem Bel.trans {B : Nat → Prop} {a b c : World} (h : Bel B a b) (k : Bel B b c) : Bel B a c :=
 ⟨k.os.trans h.os, k.tape.trans h.tape, k.output.trans h.output, Nat.le_trans h.size k.size, fun i hi => (k.block i hi).trans (h.block i hi)⟩
theorem Bel.alloc {B : Nat → Prop} {a w : World} (h : Bel B a w) (hB : ∀ k, B k → k < w.heap.size) (o : Obj) : Bel B a (w.alloc o) :=
 h.trans ⟨rfl, rfl, rfl, by simp, fun k hk => Below.heap_alloc _ _ _ (hB k hk)⟩
theorem Bel.grown {B : Nat → Prop} {a w w' : World} {row : Option Nat} (h : Bel B a w) (hg : w.grownBy w' row) (hB : ∀ k, B k → k < w.heap.size) (hr : ∀ k, row = some k → ¬ B k) : Bel B a w' :=
 h.trans ⟨hg.os, hg.tape, hg.output, hg.size, fun k hk => hg.block k (hB k hk) (fun e => hr k e.symm hk)⟩
def lowB (n : Nat) : Nat → Prop := fun k => k < n
theorem Bel.low {n : Nat} {a b : World} (h : Bel (lowB n) a b) : Below n a b := ⟨h.os, h.tape, h.output, h.size, h.block⟩
def knownG : List (Nat × List Value) := [(3, [.int .u64 1, .int .u64 10, .int .u64 100, .int .u64 1000, .int .u64 10000, .int .u64 100000, .int .u64 1000000, .int .u64 10000000, .int .u64 100000000, .int .u64 1000000000, .int .u64 10000000000, .int .u64 100000000000, .int .u64 1000000000000, .int .u64 10000000000000, .int .u64 100000000000000, .int .u64 1000000000000000, .int .u64 10000000000000000, .int .u64 100000000000000000, .int .u64 1000000000000000000, .int .u64 10000000000000000000])]
def knownI : List Nat := [6, 7]
def knownN : List Nat := [0]
def numAt (w : World) (g : Nat) : Prop := ∃ z, w.cell? ⟨g, 0, none⟩ = some (.int .i64 z)
def ifcAt (w : World) (g : Nat) : Prop := ∃ cs ty fr ev, w.heap[g]? = some (.cells cs ty fr) ∧ cs[0]? = some ev ∧ (ev = .nilIface ∨ ∃ t u, ev = .iface t u)
structure Kn (B : Nat → Prop) (w : World) : Prop where
 tab : ∀ g ∈ knownG, B g.1 ∧ ∃ ty fr, w.heap[g.1]? = some (.cells g.2.toArray ty fr)
 ifc : ∀ g ∈ knownI, B g ∧ ifcAt w g
 num : ∀ g ∈ knownN, B g ∧ numAt w g
theorem Kn.to {B B' : Nat → Prop} {w w' : World} (h : Kn B w) (hb : ∀ k, B k → B' k) (hw : ∀ k, B k → w'.heap[k]? = w.heap[k]?) : Kn B' w' := ⟨fun g hg => by
 obtain ⟨h1, ty, fr, h2⟩ := h.tab g hg
 exact ⟨hb _ h1, ty, fr, by rw [hw _ h1]; exact h2⟩, fun g hg => by
 obtain ⟨h1, h2⟩ := h.ifc g hg
 exact ⟨hb _ h1, by unfold ifcAt; rw [hw _ h1]; exact h2⟩, fun g hg => by
 obtain ⟨h1, z, h2⟩ := h.num g hg
 refine ⟨hb _ h1, z, ?_⟩
 unfold World.cell? at h2 ⊢
 rw [hw _ h1]
 exact h2⟩
structure Sim (B : Nat → Prop) (w0 : World) (ι : En) (H : Hp) (w : World) : Prop where
 below : Bel B w0 w
 big : ∀ k, B k → k < w.heap.size
 known : Kn B w0
 scope : ∀ (i : Nat) (o : AObj), H[i]? = some o → o.okN H.length
 obj : ∀ (i : Nat) (o : AObj), H[i]? = some o → o.holds ι w (ι i)
 sep : ∀ (i j : Nat) (o o' : AObj), i ≠ j → H[i]? = some o → o.owned = true → H[j]? = some o' → o'.live = true → (ι i).block ≠ (ι j).block
 base : ∀ (i : Nat) (o : AObj), H[i]? = some o → o.owned = true → ¬ B (ι i).block
 froz : ∀ (b o : Nat) (v : Value), ι.fz b o = some v → ∃ cur ty fr, w.heap[b]? = some (.cells cur ty fr) ∧ cur[o]? = some v
 apart : ∀ (i : Nat) (ob : AObj), H[i]? = some ob → ob.owned = true → ∀ o, ι.fz (ι i).block o = none
structure FOk (dd : List Deferred) (N : Nat) (ι : En) (n : Nat) (F : Fr) (a : Act) : Prop where
 size : a.tmps.size = N
 defers : a.defers = dd
 rel : ∀ t, (F t).rel ι (a.tmps.getD t undef)
 scope : ∀ t, (F t).ok n
def Fr.put (F : Fr) (d : Option Tmp) (v : AV) : Fr :=
 match d with
 | some d => fun t => bif Nat.beq t d then v else F t
 | none => F
/-! ### Values of constants -/
def ofVal : Value → Option AC
 | .int k n => some (.int k n)
 | .bool b => some (.bool b)
 | .string s => some (.str s)
 | .pointer none => some (.ptr none)
 | .slice none 0 0 => some (.sl none 0)
 | .map none => some (.map none)
 | .nilFunc => some .nilf
 | .nilIface => some .nili
 | _ => none
theorem ofVal_rel {ι : En} {v : Value} {x : AC} (h : ofVal v = some x) : x.rel ι v := by
 unfold ofVal at h
 split at h <;> first | (cases h; done) | (cases h; first | rfl | exact ⟨rfl, rfl⟩)
theorem ofVal_ok {v : Value} {x : AC} (h : ofVal v = some x) (n : Nat) : x.ok n := by
 unfold ofVal at h
 split at h <;> first | (cases h; done) | (cases h; trivial)
def evC (F : Fr) : Operand → AV
 | .tmp t => F t
 | .const v => match ofVal v with | some x => .c x | none => .any
 | .func f => .c (.fn f [] [])
 | .global _ => .any
theorem evC_rel {dd : List Deferred} {N n : Nat} {ι : En} {F : Fr} {a : Act} (h : FOk dd N ι n F a) (x : Operand) : (evC F x).rel ι (a.eval x) := by
 cases x with
 | tmp t => exact h.rel t
 | const v =>
  show AV.rel ι (match ofVal v with | some x => AV.c x | none => AV.any) v
  cases hv : ofVal v with
  | none => trivial
  | some y => exact ofVal_rel hv
 | func f => show AC.rel ι (.fn f [] []) (.func (.func f) #[] #[]); rfl
 | global g => trivial
theorem evC_ok {dd : List Deferred} {N n : Nat} {ι : En} {F : Fr} {a : Act} (h : FOk dd N ι n F a) (x : Operand) : (evC F x).ok n := by
 cases x with
 | tmp t => exact h.scope t
 | const v =>
  show AV.ok n (match ofVal v with | some x => AV.c x | none => AV.any)
  cases hv : ofVal v with
  | none => trivial
  | some y => exact ofVal_ok hv n
 | func f => exact ⟨by simp, by simp⟩
 | global g => trivial
/-! ### Types -/
def szT (P : Program) (t : TypeId) : Nat := ((P.info? t).map (·.size)).getD 0
def aggT (P : Program) (t : TypeId) : Bool := match P.underlying t with | some (.struct _) | some (.array _ _) => true | _ => false
def zeroT (P : Program) (t : TypeId) : Option (List AC) :=
 match (P.info? t).bind (·.zero) with
 | some z => z.cells.toList.mapM ofVal
 | none => none
def fieldT (P : Program) (s : TypeId) (f : Nat) : Option (Nat × Nat) :=
 match P.underlying s with
 | some (.struct fs) => (fs[f]?).map fun x => (x.offset, szT P x.type)
 | _ => none
def elemT (P : Program) (t : TypeId) : Option Nat :=
 match P.underlying t with
 | some (.slice e) => some e
 | _ => none
/-! ### Calls -/
def argsRel (ι : En) (as : List AV) (vs : Array Value) : Prop := rel1L ι as vs.toList
def Done (B : Nat → Prop) (w0 : World) (ι : En) (n : Nat) (K : AV → Hp → Prop) (e : Ending) (w' : World) : Prop :=
 ∃ ι' v av H', e = .returned v ∧ Agree n ι ι' ∧ n ≤ H'.length ∧ Sim B w0 ι' H' w' ∧ AV.rel ι' av v ∧ av.ok H'.length ∧ K av H'
def ACalls (P : Program) (f : FuncId) (args : List AV) (H : Hp) (K : AV → Hp → Prop) : Prop :=
 ∀ B w0 ι w vs, Sim B w0 ι H w → argsRel ι args vs → (∀ x ∈ args, x.ok1 H.length) → Calls P f vs w (Done B w0 ι H.length K)
theorem ACalls.mono {P : Program} {f : FuncId} {args : List AV} {H : Hp} {K K' : AV → Hp → Prop} (h : ACalls P f args H K) (hk : ∀ v H', K v H' → K' v H') : ACalls P f args H K' :=
 fun B w0 ι w vs hs hr ho => (h B w0 ι w vs hs hr ho).mono fun _ _ ⟨ι', v, av, H', h1, h2, h3, h4, h5, h6, h7⟩ => ⟨ι', v, av, H', h1, h2, h3, h4, h5, h6, hk _ _ h7⟩
end Go.Proofs.YtagoolooikpabaaGreatDoor
namespace Go.Proofs.YtagoolooikpabaaGreatDoor
open Go Go.RowKit
/-! ### Worlds -/
section
variable {B : Nat → Prop} {rr : Option Nat} {dd : List Deferred} {w0 w w' : World} {ι ι' : En} {H : Hp} {F : Fr} {a : Act} {N n m : Nat}
theorem FOk.agree (h : FOk dd N ι n F a) (hA : Agree n ι ι') (hn : n ≤ m) : FOk dd N ι' m F a :=
 ⟨h.size, h.defers, fun t => AV.rel_agree hA (h.scope t) (h.rel t), fun t => AV.ok_mono hn (h.scope t)⟩
theorem FOk.put (h : FOk dd N ι n F a) {d : Option Tmp} (hd : ∀ t, d = some t → t < N) {v : Value} {av : AV} (hr : av.rel ι v) (ho : av.ok n) : FOk dd N ι n (F.put d av) (a.put d v) := by
 cases d with
 | none => exact h
 | some d =>
  have hdn := hd d rfl
  refine ⟨by simp [Act.put, h.size], h.defers, fun t => ?_, fun t => ?_⟩
  ·by_cases e : t = d
   ·subst e
    have : t < a.tmps.size := by rw [h.size]; exact hdn
    simp [Fr.put, Act.put, this]
    exact hr
   ·have e1 : Nat.beq t d = false := Bool.eq_false_iff.2 (fun h => e (Nat.eq_of_beq_eq_true h))
    have e2 : (a.put (some d) v).tmps.getD t undef = a.tmps.getD t undef := by
     simp [Act.put, Array.getElem?_setIfInBounds_ne (Ne.symm e)]
    rw [e2]
    simp only [Fr.put, e1, cond_false]
    exact h.rel t
  ·by_cases e : t = d
   ·subst e; simp [Fr.put]; exact ho
   ·have e1 : Nat.beq t d = false := Bool.eq_false_iff.2 (fun h => e (Nat.eq_of_beq_eq_true h))
    simp only [Fr.put, e1, cond_false]
    exact h.scope t
theorem Sim.heap (h : Sim B w0 ι H w) (h1 : w'.heap = w.heap) (h2 : w'.os = w.os) (h3 : w'.tape = w.tape) (h4 : w'.output = w.output) : Sim B w0 ι H w' := by
 refine ⟨⟨h2.trans h.below.os, h3.trans h.below.tape, h4.trans h.below.output, by rw [h1]; exact h.below.size, fun k hk => by rw [h1]; exact h.below.block k hk⟩, fun k hk => by rw [h1]; exact h.big k hk, h.known, h.scope, fun i o hi => ?_, h.sep, h.base, by rw [h1]; exact h.froz, h.apart⟩
 have := h.obj i o hi
 cases o with
 | dead => trivial
 | row ty sz els own => obtain ⟨h1', h2', cur, fr, h3', h4'⟩ := this; exact ⟨h1', h2', cur, fr, by rw [h1]; exact h3', h4'⟩
 | map kt vt es => obtain ⟨h0', ob, h3', h4'⟩ := this; exact ⟨h0', ob, by rw [h1]; exact h3', h4'⟩
theorem Sim.drew (h : Sim B w0 ι H w) : Sim B w0 ι H w.drew := h.heap rfl rfl rfl rfl
def upd (ι : En) (n : Nat) (L : Loc) : En := ⟨fun i => if i = n then L else ι i, ι.fz⟩
theorem upd_agree (ι : En) (n : Nat) (L : Loc) : Agree n ι (upd ι n L) := ⟨fun i hi => by simp [upd, Nat.ne_of_lt hi], fun _ _ _ h => h⟩
theorem upd_same (ι : En) (n : Nat) (L : Loc) : upd ι n L n = L := by simp [upd]
theorem Sim.fz_lt (h : Sim B w0 ι H w) {b o : Nat} {v : Value} (hf : ι.fz b o = some v) : b < w.heap.size := by
 obtain ⟨cur, ty, fr, h1, _⟩ := h.froz b o v hf
 exact (Array.getElem?_eq_some_iff.1 h1).1
theorem Sim.fz_new (h : Sim B w0 ι H w) {b : Nat} (hb : w.heap.size ≤ b) (o : Nat) : ι.fz b o = none := by
 cases hf : ι.fz b o with
 | none => rfl
 | some v => have := h.fz_lt hf; omega
theorem froz_keep (h : Sim B w0 ι H w) (hw : ∀ b, b < w.heap.size → (∃ o v, ι.fz b o = some v) → w'.heap[b]? = w.heap[b]?) : ∀ (b o : Nat) (v : Value), ι.fz b o = some v → ∃ cur ty fr, w'.heap[b]? = some (.cells cur ty fr) ∧ cur[o]? = some v := by
 intro b o v hf
 obtain ⟨cur, ty, fr, h1, h2⟩ := h.froz b o v hf
 exact ⟨cur, ty, fr, by rw [hw b (h.fz_lt hf) ⟨o, v, hf⟩]; exact h1, h2⟩
theorem getElem?_lt {α : Type} {l : List α} {i : Nat} {x : α} (h : l[i]? = some x) : i < l.length := (List.getElem?_eq_some_iff.1 h).1
theorem AObj.holds_agree {o : AObj} {L : Loc} (hA : Agree n ι ι') (ho : o.okN n) (h : o.holds ι w L) : o.holds ι' w L := by
 cases o with
 | dead => trivial
 | row ty sz els own =>
  obtain ⟨h1, h2, cur, fr, h3, h4, h5⟩ := h
  refine ⟨h1, h2, cur, fr, h3, fun k e hk j x hj => ?_, h5⟩
  obtain ⟨u, hu, hr⟩ := h4 k e hk j x hj
  exact ⟨u, hu, AC.rel_agree hA ((ho e (List.mem_of_getElem? hk)).2 x (List.mem_of_getElem? hj)) hr⟩
 | map kt vt es =>
  obtain ⟨h0, ob, h3, h4⟩ := h
  refine ⟨h0, ob, h3, ?_⟩
  cases vt with
  | zero =>
   obtain ⟨b, since, last, seen, h5, h6, p, rfl, h8⟩ := h4
   exact ⟨b, since, last, seen, h5, h6, p, rfl, AV.rel_agree hA (ho p sMp).1 h8⟩
  | succ c =>
   obtain ⟨en, h5, h6, h7, h8⟩ := h4
   refine ⟨en, h5, h6, h7, fun i p hp => ?_⟩
   obtain ⟨m, hm, h9, h10⟩ := h8 i p hp
   have := ho p (List.mem_of_getElem? hp)
   exact ⟨m, hm, AV.rel_agree hA this.1 h9, AV.rel_agree hA this.2 h10⟩
theorem AObj.okN_mono (h : n ≤ m) {o : AObj} (ho : o.okN n) : o.okN m := by
 cases o with
 | dead => trivial
 | row ty sz els own => exact fun e he => ⟨(ho e he).1, fun x hx => AC.ok_mono h ((ho e he).2 x hx)⟩
 | map kt vt es => exact fun p hp => ⟨AV.ok_mono h (ho p hp).1, AV.ok_mono h (ho p hp).2⟩
theorem AObj.holds_block {o : AObj} {L : Loc} (hb : w'.heap[L.block]? = w.heap[L.block]?) (h : o.holds ι w L) : o.holds ι w' L := by
 cases o with
 | dead => trivial
 | row ty sz els own => obtain ⟨h1, h2, cur, fr, h3, h4⟩ := h; exact ⟨h1, h2, cur, fr, by rw [hb]; exact h3, h4⟩
 | map kt vt es => obtain ⟨h0, ob, h3, h4⟩ := h; exact ⟨h0, ob, by rw [hb]; exact h3, h4⟩
theorem AObj.holds_lt {o : AObj} {L : Loc} (hl : o.live = true) (h : o.holds ι w L) : L.block < w.heap.size := by
 cases o with
 | dead => simp [AObj.live] at hl
 | row ty sz els own => obtain ⟨_, _, cur, fr, h3, _⟩ := h; exact (Array.getElem?_eq_some_iff.1 h3).1
 | map kt vt es => obtain ⟨_, ob, h3, _⟩ := h; exact (Array.getElem?_eq_some_iff.1 h3).1
theorem Sim.new (h : Sim B w0 ι H w) (ob : Obj) (o : AObj) (L : Loc) (hL : L.block = w.heap.size) (hok : o.okN H.length) (hh : o.holds (upd ι H.length L) (w.alloc ob) L) :
  Sim B w0 (upd ι H.length L) (H ++ [o]) (w.alloc ob) := by
 have hA := upd_agree ι H.length L
 have hlen : (H ++ [o]).length = H.length + 1 := by simp
 refine ⟨h.below.alloc h.big ob, fun k hk => by have := h.big k hk; simp; omega, h.known, fun i q hq => ?_, fun i q hq => ?_, fun i j q q' hij hq ho hq' hl => ?_, fun i q hq ho => ?_, froz_keep (ι := ι) h fun b hb _ => Below.heap_alloc w ob _ hb, fun i q hq ho o' => ?_⟩
 ·rw [hlen]
  rcases Nat.lt_or_ge i H.length with hi | hi
  ·rw [List.getElem?_append_left hi] at hq; exact AObj.okN_mono oMg (h.scope i q hq)
  ·have := getElem?_lt hq
   have e : i = H.length := by omega
   subst e; simp at hq; subst hq; exact AObj.okN_mono oMg hok
 ·rcases Nat.lt_or_ge i H.length with hi | hi
  ·rw [List.getElem?_append_left hi] at hq
   rw [hA.loc i hi]
   by_cases hlv : q.live = true
   ·have hb := AObj.holds_lt hlv (h.obj i q hq)
    exact AObj.holds_block (Below.heap_alloc w ob _ hb) (AObj.holds_agree hA (h.scope i q hq) (h.obj i q hq))
   ·cases q <;> simp [AObj.live] at hlv; trivial
  ·have := getElem?_lt hq
   have e : i = H.length := by omega
   subst e; simp at hq; subst hq; rw [upd_same]; exact hh
 ·have old : ∀ (i : Nat) (q : AObj), H[i]? = some q → q.live = true → (ι i).block < w.heap.size := fun i q hq hl => AObj.holds_lt hl (h.obj i q hq)
  have own_live : ∀ q : AObj, q.owned = true → q.live = true := by intro q; cases q <;> simp [AObj.owned, AObj.live]
  rcases Nat.lt_or_ge i H.length with hi | hi
  ·rw [List.getElem?_append_left hi] at hq
   rw [hA.loc i hi]
   rcases Nat.lt_or_ge j H.length with hj | hj
   ·rw [List.getElem?_append_left hj] at hq'
    rw [hA.loc j hj]
    exact h.sep i j q q' hij hq ho hq' hl
   ·have := getElem?_lt hq'
    have e : j = H.length := by omega
    subst e; rw [upd_same, hL]
    have := old i q hq (own_live q ho); omega
  ·have := getElem?_lt hq
   have e : i = H.length := by omega
   subst e; rw [upd_same, hL]
   rcases Nat.lt_or_ge j H.length with hj | hj
   ·rw [List.getElem?_append_left hj] at hq'
    rw [hA.loc j hj]
    have := old j q' hq' hl; omega
   ·have := getElem?_lt hq'
    omega
 ·rcases Nat.lt_or_ge i H.length with hi | hi
  ·rw [List.getElem?_append_left hi] at hq; rw [hA.loc i hi]; exact h.base i q hq ho
  ·have := getElem?_lt hq
   have e : i = H.length := by omega
   subst e; rw [upd_same, hL]; exact fun hk => by have := h.big _ hk; omega
 ·rcases Nat.lt_or_ge i H.length with hi | hi
  ·rw [List.getElem?_append_left hi] at hq; rw [hA.loc i hi]; exact h.apart i q hq ho o'
  ·have := getElem?_lt hq
   have e : i = H.length := by omega
   subst e; rw [upd_same, hL]; exact h.fz_new lRf o'
theorem Sim.set (h : Sim B w0 ι H w) {i : Nat} {o o' : AObj} (hi : H[i]? = some o) (hown : o.owned = true) (hw : ∀ k, k ≠ (ι i).block → w'.heap[k]? = w.heap[k]?) (hsz : w'.heap.size = w.heap.size)
  (h2 : w'.os = w.os) (h3 : w'.tape = w.tape) (h4 : w'.output = w.output) (hok : o'.okN H.length) (hh : o'.holds ι w' (ι i)) : Sim B w0 ι (H.set i o') w' := by
 have hb := h.base i o hi hown
 have hlt := getElem?_lt hi
 have hlo : ∀ q : AObj, q.owned = true → q.live = true := by intro q; cases q <;> simp [AObj.owned, AObj.live]
 refine ⟨⟨h2.trans h.below.os, h3.trans h.below.tape, h4.trans h.below.output, by rw [hsz]; exact h.below.size, fun k hk => (hw k (fun e => hb (e ▸ hk))).trans (h.below.block k hk)⟩, fun k hk => by rw [hsz]; exact h.big k hk, h.known, fun j q hq => ?_, fun j q hq => ?_, fun j k q q' hjk hq hqo hq' hl => ?_, fun j q hq hqo => ?_, froz_keep (ι := ι) h (fun b _ hf => hw b (fun e => by obtain ⟨o1, v1, hf⟩ := hf; rw [e, h.apart i o hi hown o1] at hf; cases hf)), fun j q hq hqo => ?_⟩
 ·rw [List.length_set]
  by_cases e : i = j
  ·subst e; rw [List.getElem?_set_self hlt] at hq; injection hq with hq; subst hq; exact hok
  ·rw [List.getElem?_set_ne e] at hq; exact h.scope j q hq
 ·by_cases e : i = j
  ·subst e; rw [List.getElem?_set_self hlt] at hq; injection hq with hq; subst hq; exact hh
  ·rw [List.getElem?_set_ne e] at hq
   by_cases hlv : q.live = true
   ·exact AObj.holds_block (hw _ (Ne.symm (h.sep i j o q e hi hown hq hlv))) (h.obj j q hq)
   ·cases q <;> simp [AObj.live] at hlv; trivial
 ·have key : ∀ (j : Nat) (q : AObj), (H.set i o')[j]? = some q → q.live = true → ∃ q0, H[j]? = some q0 ∧ q0.live = true ∧ (q.owned = true → q0.owned = true) := by
   intro j q hq hl
   by_cases e : i = j
   ·subst e; exact ⟨o, hi, hlo o hown, fun _ => hown⟩
   ·rw [List.getElem?_set_ne e] at hq; exact ⟨q, hq, hl, id⟩
  obtain ⟨q0, h5, _, h6⟩ := key j q hq (hlo q hqo)
  obtain ⟨q1, h7, h8, _⟩ := key k q' hq' hl
  exact h.sep j k q0 q1 hjk h5 (h6 hqo) h7 h8
 ·by_cases e : i = j
  ·subst e; exact hb
  ·rw [List.getElem?_set_ne e] at hq; exact h.base j q hq hqo
 ·by_cases e : i = j
  ·subst e; exact h.apart i o hi hown
  ·rw [List.getElem?_set_ne e] at hq; exact h.apart j q hq hqo
theorem Sim.dead (h : Sim B w0 ι H w) {i : Nat} {o : AObj} (hi : H[i]? = some o) (hown : o.owned = true) : Sim B w0 ι (H.set i .dead) w :=
 h.set hi hown (fun _ _ => rfl) rfl rfl rfl rfl trivial trivial
theorem Sim.grown (h : Sim B w0 ι H w) (hg : w.grownBy w' none) : Sim B w0 ι H w' := by
 refine ⟨h.below.grown hg h.big sMp, fun k hk => Nat.lt_of_lt_of_le (h.big k hk) hg.size, h.known, h.scope, fun i o hi => ?_, h.sep, h.base, froz_keep h (fun b hb _ => hg.block b hb sMp), h.apart⟩
 by_cases hlv : o.live = true
 ·exact AObj.holds_block (hg.block _ (AObj.holds_lt hlv (h.obj i o hi)) sMp) (h.obj i o hi)
 ·cases o <;> simp [AObj.live] at hlv; trivial
theorem Sim.grownRow (h : Sim B w0 ι H w) {r : Option Nat} (hg : w.grownBy w' r) (hr : ∀ b, r = some b → ¬ B b ∧ (∀ o, ι.fz b o = none) ∧ ∀ (i : Nat) (o : AObj), H[i]? = some o → o.live = true → (ι i).block ≠ b) : Sim B w0 ι H w' := by
 refine ⟨h.below.grown hg h.big (fun b hb => (hr b hb).1), fun k hk => Nat.lt_of_lt_of_le (h.big k hk) hg.size, h.known, h.scope, fun i o hi => ?_, h.sep, h.base, froz_keep h (fun b hb hf => hg.block b hb (fun e => by obtain ⟨o1, v1, hf⟩ := hf; rw [(hr b e.symm).2.1 o1] at hf; cases hf)), h.apart⟩
 by_cases hlv : o.live = true
 ·exact AObj.holds_block (hg.block _ (AObj.holds_lt hlv (h.obj i o hi)) (fun e => (hr _ e.symm).2.2 i o hi hlv rfl)) (h.obj i o hi)
 ·cases o <;> simp [AObj.live] at hlv; trivial
theorem Sim.add (h : Sim B w0 ι H w) (o : AObj) (L : Loc) (hL : ¬ B L.block) (hfz : o.owned = true → ∀ p, ι.fz L.block p = none) (hne : ∀ (i : Nat) (q : AObj), H[i]? = some q → q.live = true → (ι i).block ≠ L.block) (hok : o.okN H.length) (hh : o.holds (upd ι H.length L) w L) :
  Sim B w0 (upd ι H.length L) (H ++ [o]) w := by
 have hA := upd_agree ι H.length L
 have hlen : (H ++ [o]).length = H.length + 1 := by simp
 have hlo : ∀ q : AObj, q.owned = true → q.live = true := by intro q; cases q <;> simp [AObj.owned, AObj.live]
 have key : ∀ (i : Nat) (q : AObj), (H ++ [o])[i]? = some q → (i < H.length ∧ H[i]? = some q ∧ upd ι H.length L i = ι i) ∨ (i = H.length ∧ q = o ∧ upd ι H.length L i = L) := by
  intro i q hq
  rcases Nat.lt_or_ge i H.length with hi | hi
  ·rw [List.getElem?_append_left hi] at hq; exact .inl ⟨hi, hq, hA.loc i hi⟩
  ·have := getElem?_lt hq
   have e : i = H.length := by omega
   subst e; simp at hq; exact .inr ⟨rfl, hq.symm, upd_same _ _ _⟩
 refine ⟨h.below, h.big, h.known, fun i q hq => ?_, fun i q hq => ?_, fun i j q q' hij hq ho hq' hl => ?_, fun i q hq ho => ?_, h.froz, fun i q hq ho => ?_⟩
 ·rw [hlen]
  rcases key i q hq with ⟨_, h1, _⟩ | ⟨_, rfl, _⟩
  ·exact AObj.okN_mono oMg (h.scope i q h1)
  ·exact AObj.okN_mono oMg hok
 ·rcases key i q hq with ⟨_, h1, h2⟩ | ⟨_, rfl, h2⟩
  ·rw [h2]; exact AObj.holds_agree hA (h.scope i q h1) (h.obj i q h1)
  ·rw [h2]; exact hh
 ·rcases key i q hq with ⟨_, h1, h2⟩ | ⟨rfl, rfl, h2⟩ <;> rcases key j q' hq' with ⟨_, h3, h4⟩ | ⟨rfl, rfl, h4⟩
  ·rw [h2, h4]; exact h.sep i j q q' hij h1 ho h3 hl
  ·rw [h2, h4]; exact hne i q h1 (hlo q ho)
  ·rw [h2, h4]; exact Ne.symm (hne j q' h3 hl)
  ·exact absurd rfl hij
 ·rcases key i q hq with ⟨_, h1, h2⟩ | ⟨_, rfl, h2⟩
  ·rw [h2]; exact h.base i q h1 ho
  ·rw [h2]; exact hL
 ·rcases key i q hq with ⟨_, h1, h2⟩ | ⟨_, rfl, h2⟩
  ·rw [h2]; exact h.apart i q h1 ho
  ·rw [h2]; exact hfz ho
def frzE (ι : En) (b : Nat) (cur : Array Value) : En := ⟨ι.loc, fun b' o => if b' = b then cur[o]? else ι.fz b' o⟩
theorem frzE_agree (h : Sim B w0 ι H w) {b : Nat} {cur : Array Value} {ty : TypeId} {fr : Nat × Nat} (hb : w.heap[b]? = some (.cells cur ty fr)) (n : Nat) : Agree n ι (frzE ι b cur) := by
 refine ⟨fun _ _ => rfl, fun b' o v hv => ?_⟩
 show (if b' = b then cur[o]? else ι.fz b' o) = some v
 by_cases e : b' = b
 ·subst e
  obtain ⟨cur', ty', fr', h1, h2⟩ := h.froz b' o v hv
  rw [hb] at h1
  injection h1 with h1
  injection h1 with h1 _ _
  subst h1
  rw [if_pos rfl]; exact h2
 ·rw [if_neg e]; exact hv
theorem Sim.freeze (h : Sim B w0 ι H w) {i : Nat} {ty sz : Nat} {els : List (List AC)} {own : Bool} (hi : H[i]? = some (.row ty sz els own)) :
  ∃ ι', Agree H.length ι ι' ∧ Sim B w0 ι' (H.set i (.row ty sz els false)) w ∧
   ∀ (k n : Nat) (v : Value), (∀ e ∈ (els.drop k).take n, ∀ x ∈ e, x.pure = true) → k + n ≤ els.length → AC.rel ι (.sl (some (i, k)) n) v → AC.rel ι' (.lst sz ((els.drop k).take n)) v := by
 obtain ⟨h1, h2, cur, fr, h3, h4, h5⟩ := h.obj i _ hi
 have hlt := getElem?_lt hi
 have hA := frzE_agree h h3 H.length
 refine ⟨_, hA, ⟨h.below, h.big, h.known, fun j q hq => ?_, fun j q hq => ?_, fun j k q q' hjk hq hqo hq' hl => ?_, fun j q hq hqo => ?_, fun b o v hf => ?_, fun j q hq hqo o' => ?_⟩, ?_⟩
 ·rw [List.length_set]
  by_cases e : i = j
  ·subst e; rw [List.getElem?_set_self hlt] at hq; injection hq with hq; subst hq
   have h6 := h.scope i _ hi
   exact h6
  ·rw [List.getElem?_set_ne e] at hq; exact h.scope j q hq
 ·by_cases e : i = j
  ·subst e; rw [List.getElem?_set_self hlt] at hq; injection hq with hq; subst hq
   have := AObj.holds_agree hA (h.scope i _ hi) (h.obj i _ hi)
   obtain ⟨h1', h2', cur', fr', h3', h4', _⟩ := this
   exact ⟨h1', h2', cur', fr', h3', h4', by simp⟩
  ·rw [List.getElem?_set_ne e] at hq
   exact AObj.holds_agree hA (h.scope j q hq) (h.obj j q hq)
 ·have key : ∀ (j : Nat) (q : AObj), (H.set i (.row ty sz els false))[j]? = some q → ∃ q0, H[j]? = some q0 ∧ (q.live = true → q0.live = true) ∧ (q.owned = true → q0.owned = true ∧ j ≠ i) := by
   intro j q hq
   by_cases e : i = j
   ·subst e
    rw [List.getElem?_set_self hlt] at hq; injection hq with hq; subst hq
    exact ⟨_, hi, fun _ => rfl, fun h => by simp [AObj.owned] at h⟩
   ·rw [List.getElem?_set_ne e] at hq; exact ⟨q, hq, id, fun h => ⟨h, fun e' => e e'.symm⟩⟩
  obtain ⟨q0, h6, _, h7⟩ := key j q hq
  obtain ⟨q1, h8, h9, _⟩ := key k q' hq'
  exact h.sep j k q0 q1 hjk h6 (h7 hqo).1 h8 (h9 hl)
 ·by_cases e : i = j
  ·subst e; rw [List.getElem?_set_self hlt] at hq; injection hq with hq; subst hq; simp [AObj.owned] at hqo
  ·rw [List.getElem?_set_ne e] at hq; exact h.base j q hq hqo
 ·show ∃ cur ty fr, w.heap[b]? = some (.cells cur ty fr) ∧ cur[o]? = some v
  simp only [frzE] at hf
  split at hf
  ·rename_i e; subst e; exact ⟨cur, _, fr, h3, hf⟩
  ·exact h.froz b o v hf
 ·by_cases e : i = j
  ·subst e; rw [List.getElem?_set_self hlt] at hq; injection hq with hq; subst hq; simp [AObj.owned] at hqo
  ·rw [List.getElem?_set_ne e] at hq
   have hne : (ι j).block ≠ (ι i).block := h.sep j i q _ (Ne.symm e) hq hqo hi rfl
   show (if (ι j).block = (ι i).block then cur[o']? else ι.fz (ι j).block o') = none
   rw [if_neg hne]; exact h.apart j q hq hqo o'
 ·intro k n v hp hkn hv
  obtain ⟨a, rfl, h6, h7⟩ := hv
  have hsc := h.scope i _ hi
  have hl : ((els.drop k).take n).length = n := by rw [List.length_take, List.length_drop]; omega
  simp only [AC.rel, AC.relZ]
  refine ⟨some a, (ι i).cap - k, by rw [hl], by rw [hl]; omega, fun e he => (hsc e (List.mem_of_mem_drop (List.mem_of_mem_take he))).1, by simp, fun a' ha' => ?_⟩
  injection ha' with ha'; subst ha'
  rcases Nat.eq_zero_or_pos n with hn | hn
  ·subst hn; simp [relRows]
  ·have ha := h7 (.inl oMg)
   subst ha
   refine ⟨.inr rfl, relRows_of fun q e hq => relCells_of fun j x hj => ?_⟩
   have hq0 := hq
   rw [List.getElem?_take] at hq
   split at hq
   ·rw [List.getElem?_drop] at hq
    obtain ⟨u, h8, h9⟩ := h4 (k + q) e hq j x hj
    refine ⟨u, ?_, ?_⟩
    ·show (if (ι i).block = (ι i).block then cur[(ι i).off + (k * (ι i).sz + 0) + q * sz + j]? else _) = some u
     rw [if_pos rfl, h1, ← h8]; congr 1; rw [Nat.add_mul]; omega
    ·exact AC.relZ_of_rel (hp e (List.mem_of_getElem? hq0) x (List.mem_of_getElem? hj)) (AC.rel_agree hA (AC.ok_mono oMg ((hsc e (List.mem_of_getElem? hq)).2 x (List.mem_of_getElem? hj))) h9)
   ·cases hq
end
end Go.Proofs.YtagoolooikpabaaGreatDoor
namespace Go.Proofs.YtagoolooikpabaaGreatDoor
open Go Go.RowKit
section
variable {P : Program} {B : Nat → Prop} {rr : Option Nat} {dd : List Deferred} {w0 w w' : World} {ι ι' : En} {H : Hp} {F : Fr} {a : Act} {N n m : Nat} {Q : Exit → Act → World → Prop} {next : Act → World → Prop} {o : Oper}
def StepK (B : Nat → Prop) (w0 : World) (ι : En) (n : Nat) (a : Act) (dst : Option Tmp) (K : AV → Hp → Prop) (a' : Act) (w' : World) : Prop :=
 ∃ ι' v av H', a' = a.put dst v ∧ Agree n ι ι' ∧ n ≤ H'.length ∧ Sim B w0 ι' H' w' ∧ AV.rel ι' av v ∧ av.ok H'.length ∧ K av H'
theorem wp_val {v : Value} (h : (execOp a.eval o).run P w = .ok (.value v) w') (k : next (a.put o.dst v) w') : o.wp P a w next Q := by
 unfold Oper.wp; rw [h]; exact k
theorem wp_skp (h : (execOp a.eval o).run P w = .ok .skip w') (k : next (a.put o.dst undef) w') : o.wp P a w next Q := by
 unfold Oper.wp; rw [h]; exact k
theorem step_same {K : AV → Hp → Prop} {av : AV} {v : Value} (hs : Sim B w0 ι H w) (h : (execOp a.eval o).run P w = .ok (.value v) w) (hr : av.rel ι v) (ho : av.ok H.length) (k : K av H) :
  o.wp P a w (StepK B w0 ι H.length a o.dst K) Q := wp_val h ⟨ι, v, av, H, rfl, Agree.refl _ _, Nat.le_refl _, hs, hr, ho, k⟩
/-! ### two numbers, bools, strings, a pointer and nil -/
def aBin (op : BinOp) (x y : AV) (K : AV → Prop) : Prop :=
 match op, x, y with
 | .add, .c (.int k a), .c (.int k' b) => k = k' ∧ K (.c (.int k (k.wrap (a + b))))
 | .sub, .c (.int k a), .c (.int k' b) => k = k' ∧ K (.c (.int k (k.wrap (a - b))))
 | .mul, .c (.int k a), .c (.int k' b) => k = k' ∧ K (.c (.int k (k.wrap (a * b))))
 | .quo, .c (.int k a), .c (.int k' b) => k = k' ∧ b ≠ 0 ∧ K (.c (.int k (k.wrap (a.tdiv b))))
 | .rem, .c (.int k a), .c (.int k' b) => k = k' ∧ b ≠ 0 ∧ K (.c (.int k (a.tmod b)))
 | .and, .c (.int k a), .c (.int k' b) => k = k' ∧ K (.c (.int k (k.wrap (BitVec.ofInt k.bits a &&& BitVec.ofInt k.bits b).toNat)))
 | .or, .c (.int k a), .c (.int k' b) => k = k' ∧ K (.c (.int k (k.wrap (BitVec.ofInt k.bits a ||| BitVec.ofInt k.bits b).toNat)))
 | .xor, .c (.int k a), .c (.int k' b) => k = k' ∧ K (.c (.int k (k.wrap (BitVec.ofInt k.bits a ^^^ BitVec.ofInt k.bits b).toNat)))
 | .shl, .c (.int k a), .c (.int _ b) => 0 ≤ b ∧ K (.c (.int k (k.wrap (a * 2 ^ (min b.toNat k.bits)))))
 | .shr, .c (.int k a), .c (.int _ b) => 0 ≤ b ∧ K (.c (.int k (a.fdiv (2 ^ (min b.toNat k.bits)))))
 | .eql, .c (.int k a), .c (.int k' b) => k = k' ∧ K (.c (.bool (a == b)))
 | .neq, .c (.int k a), .c (.int k' b) => k = k' ∧ K (.c (.bool (a != b)))
 | .lss, .c (.int k a), .c (.int k' b) => k = k' ∧ K (.c (.bool (decide (a < b))))
 | .leq, .c (.int k a), .c (.int k' b) => k = k' ∧ K (.c (.bool (decide (a ≤ b))))
 | .gtr, .c (.int k a), .c (.int k' b) => k = k' ∧ K (.c (.bool (decide (b < a))))
 | .geq, .c (.int k a), .c (.int k' b) => k = k' ∧ K (.c (.bool (decide (b ≤ a))))
 | .add, .c (.str a), .c (.str b) => a.size + b.size ≤ 9223372036854775807 ∧ K (.c (.str (a ++ b)))
 | .eql, .c (.str a), .c (.str b) => K (.c (.bool (a.toList == b.toList)))
 | .neq, .c (.str a), .c (.str b) => K (.c (.bool (!(a.toList == b.toList))))
 | .lss, .c (.str a), .c (.str b) => K (.c (.bool (Op.bytesLess a.toList b.toList)))
 | .leq, .c (.str a), .c (.str b) => K (.c (.bool (Op.bytesLess a.toList b.toList || a.toList == b.toList)))
 | .gtr, .c (.str a), .c (.str b) => K (.c (.bool (!(Op.bytesLess a.toList b.toList || a.toList == b.toList))))
 | .geq, .c (.str a), .c (.str b) => K (.c (.bool (!(Op.bytesLess a.toList b.toList))))
 | _, _, _ => False
def BinR (P : Program) (w : World) (ι : En) (n : Nat) (K : AV → Prop) (s : Sem Value) : Prop := ∃ r av, s.run P w = .ok r w ∧ AV.rel ι av r ∧ av.ok n ∧ K av
theorem bin_int {K : AV → Prop} {s : Sem Value} {k : IntKind} {z : Int} (h : K (.c (.int k z))) (hr : s.run P w = .ok (.int k z) w) : BinR P w ι n K s := ⟨.int k z, .c (.int k z), hr, rfl, trivial, h⟩
theorem bin_bool {K : AV → Prop} {s : Sem Value} {z : Bool} (h : K (.c (.bool z))) (hr : s.run P w = .ok (.bool z) w) : BinR P w ι n K s := ⟨.bool z, .c (.bool z), hr, rfl, trivial, h⟩
theorem bin_str {K : AV → Prop} {s : Sem Value} {z : ByteArray} (h : K (.c (.str z))) (hr : s.run P w = .ok (.string z) w) : BinR P w ι n K s := ⟨.string z, .c (.str z), hr, rfl, trivial, h⟩
theorem aBin_run {op : BinOp} {x y : AV} {v u : Value} {K : AV → Prop} {t : TypeId} (h : aBin op x y K) (hx : x.rel ι v) (hy : y.rel ι u) : BinR P w ι n K (binOp op t v u) := by
 unfold aBin at h
 split at h <;> first
  | exact h.elim
  | (obtain ⟨rfl, h⟩ := h
     have hx1 : v = _ := hx; have hy1 : u = _ := hy; subst hx1; subst hy1
     first
      | (refine bin_int h ?_; simp [binOp, Op.intArith]; done)
      | (refine bin_bool h ?_; simp [binOp, Op.intCmp]; done)
      | (refine bin_int h ?_; unfold binOp; simp only [ne_eq, not_true_eq_false, ↓reduceIte]; rfl; done)
      | (refine bin_int h.2 ?_; simp [binOp, Op.intDiv, h.1]; done))
  | (obtain ⟨h0, h⟩ := h
     have hx1 : v = _ := hx; have hy1 : u = _ := hy; subst hx1; subst hy1
     first
      | (refine bin_int h ?_; simp [binOp, Op.shift, Int.not_lt.2 h0]; done)
      | (refine bin_str h ?_; simp [binOp, Op.stringOp, IntKind.max, IntKind.signed, IntKind.bits]; omega; done))
  | (have hx1 : v = _ := hx; have hy1 : u = _ := hy; subst hx1; subst hy1
     exact bin_bool h (by simp [binOp, Op.stringOp]))
/-! ### equality of what is no number and no string -/
def kindT (P : Program) (t : TypeId) : Nat := match P.underlying t with
 | some .bool => 1
 | some (.pointer _) => 2
 | some (.slice _) => 3
 | some (.map _ _) => 4
 | some (.func _ _ _) => 5
 | some (.interface _) => 6
 | _ => 0
def basicK (P : Program) (t : TypeId) : Nat := match P.underlying t with
 | some (.int _) => 1
 | some .bool => 2
 | some .string => 3
 | _ => 0
def plainF (P : Program) (f : Field) : Bool := f.name != "_" && basicK P f.type != 0
def leafK (P : Program) (f : Field) : Option (List (Nat × Nat)) :=
 if basicK P f.type != 0 then some [(f.offset, basicK P f.type)]
 else match P.underlying f.type with
 | some (.struct gs) => if (!P.stoodInHeld f.type && (P.info? f.type).isSome && (gs.toList.all fun g => plainF P g && decide (g.offset < szT P f.type))) = true then some (gs.toList.map fun g => (f.offset + g.offset, basicK P g.type)) else none
 | _ => none
def leafsK (P : Program) : List Field → Option (List (Nat × Nat))
 | [] => some []
 | f :: fs => if (f.name != "_") = true then (match leafK P f, leafsK P fs with | some a, some b => some (a ++ b) | _, _ => none) else none
def leafK2 (P : Program) (f : Field) : Option (List (Nat × Nat)) :=
 if basicK P f.type != 0 then some [(f.offset, basicK P f.type)]
 else match P.underlying f.type with
 | some (.struct gs) => (match leafsK P gs.toList with
  | some l => if (!P.stoodInHeld f.type && (P.info? f.type).isSome && l.all fun p => decide (p.1 < szT P f.type)) = true then some (l.map fun p => (f.offset + p.1, p.2)) else none
  | none => none)
 | _ => none
def leafsK2 (P : Program) : List Field → Option (List (Nat × Nat))
 | [] => some []
 | f :: fs => if (f.name != "_") = true then (match leafK2 P f, leafsK2 P fs with | some a, some b => some (a ++ b) | _, _ => none) else none
def fieldsK (P : Program) (t : TypeId) : Option (List (Nat × Nat)) := if (P.stoodInHeld t || P.eqGuardType P.depth t) = true then none else match P.underlying t with
 | some (.struct fs) => leafsK2 P fs.toList
 | _ => none
def eqC : Nat → Option AC → Option AC → Option Bool → Option Bool
 | 1, some (.int k a), some (.int k' b), some r => if k = k' then some (a == b && r) else none
 | 2, some (.bool a), some (.bool b), some r => some (a == b && r)
 | 3, some (.str a), some (.str b), some r => some (a.toList == b.toList && r)
 | _, _, _, _ => none
def eqF : List (Nat × Nat) → List AC → List AC → Option Bool
 | [], _, _ => some true
 | p :: r, xs, ys => eqC p.2 xs[p.1]? ys[p.1]? (eqF r xs ys)
def aBinT (P : Program) (t : TypeId) (op : BinOp) (x y : AV) (K : AV → Prop) : Prop :=
 match op, x, y with
 | .eql, .c (.bool a), .c (.bool b) => kindT P t = 1 ∧ K (.c (.bool (a == b)))
 | .neq, .c (.bool a), .c (.bool b) => kindT P t = 1 ∧ K (.c (.bool (!(a == b))))
 | .eql, .c (.ptr r), .c (.ptr none) => kindT P t = 2 ∧ K (.c (.bool r.isNone))
 | .neq, .c (.ptr r), .c (.ptr none) => kindT P t = 2 ∧ K (.c (.bool (!r.isNone)))
 | .eql, .c (.fp _), .c (.ptr none) => kindT P t = 2 ∧ K (.c (.bool false))
 | .neq, .c (.fp _), .c (.ptr none) => kindT P t = 2 ∧ K (.c (.bool true))
 | .eql, .c (.sl r _), .c (.sl none _) => kindT P t = 3 ∧ K (.c (.bool r.isNone))
 | .neq, .c (.sl r _), .c (.sl none _) => kindT P t = 3 ∧ K (.c (.bool (!r.isNone)))
 | .eql, .c (.map r), .c (.map none) => kindT P t = 4 ∧ K (.c (.bool r.isNone))
 | .neq, .c (.map r), .c (.map none) => kindT P t = 4 ∧ K (.c (.bool (!r.isNone)))
 | .eql, .agg xs, .agg ys => ∃ b, (fieldsK P t).bind (fun l => eqF l xs ys) = some b ∧ K (.c (.bool b))
 | .neq, .agg xs, .agg ys => ∃ b, (fieldsK P t).bind (fun l => eqF l xs ys) = some b ∧ K (.c (.bool (!b)))
 | op, x, y => aBin op x y K
theorem run_basic {t : TypeId} (h : basicK P t ≠ 0) : (isAgg t).run P w = .ok false w := by
 unfold basicK at h
 split at h <;> first | exact absurd rfl h | (rename_i h'; unfold isAgg; rw [Sem.run_bind, run_underlying h']; rfl)
theorem run_part {t : TypeId} (h : basicK P t ≠ 0) {vs : List Value} {o : Nat} {v : Value} (hv : vs[o]? = some v) : (part t vs.toArray o).run P w = .ok v w := by
 unfold part
 rw [Sem.run_bind, run_basic h, Result.andThen_ok]
 simp [hv]
theorem relL_at {xs : List AC} {vs : List Value} (h : relL ι xs vs) {o : Nat} {x : AC} (hx : xs[o]? = some x) : ∃ v, vs[o]? = some v ∧ x.rel ι v := relL_get h o x hx
theorem run_sizeOf0 {t : TypeId} (h : (P.info? t).isSome = true) (w : World) : (sizeOf t).run P w = .ok (szT P t) w := by
 obtain ⟨i, hi⟩ := Option.isSome_iff_exists.1 h
 simp [sizeOf, typeInfo, hi, szT]
theorem eqC_some {k : Nat} {x y : Option AC} {r : Option Bool} {b : Bool} (h : eqC k x y r = some b) : ∃ e q, r = some q ∧ b = (e && q) ∧ ∀ z, eqC k x y (some z) = some (e && z) := by
 unfold eqC at h
 split at h
 ·split at h
  ·rename_i hk
   injection h with h
   exact ⟨_, _, rfl, h.symm, fun z => by simp [eqC, hk]⟩
  ·cases h
 ·injection h with h
  exact ⟨_, _, rfl, h.symm, fun z => rfl⟩
 ·injection h with h
  exact ⟨_, _, rfl, h.symm, fun z => rfl⟩
 ·cases h
theorem eqF_append : ∀ (l m : List (Nat × Nat)) (xs ys : List AC) (b : Bool), eqF (l ++ m) xs ys = some b → ∃ b1 b2, eqF l xs ys = some b1 ∧ eqF m xs ys = some b2 ∧ b = (b1 && b2)
 | [], m, xs, ys, b, h => ⟨true, b, rfl, h, by simp⟩
 | p :: l, m, xs, ys, b, h => by
  rw [List.cons_append, eqF] at h
  obtain ⟨e, q, h1, h2, h3⟩ := eqC_some h
  obtain ⟨b1, b2, g1, g2, g3⟩ := eqF_append l m xs ys q h1
  refine ⟨e && b1, b2, ?_, g2, ?_⟩
  ·rw [eqF, g1, h3]
  ·rw [h2, g3, Bool.and_assoc]
theorem eqF_shift (o z : Nat) (xs ys : List AC) : ∀ (l : List (Nat × Nat)), (∀ p ∈ l, p.1 < z) → eqF (l.map fun p => (o + p.1, p.2)) xs ys = eqF l ((xs.drop o).take z) ((ys.drop o).take z)
 | [], _ => rfl
 | p :: l, h => by
  have hp := h p sMp
  rw [List.map_cons, eqF, eqF, eqF_shift o z xs ys l (fun q hq => h q (by simp [hq]))]
  dsimp only
  rw [List.getElem?_take, if_pos hp, List.getElem?_drop, List.getElem?_take, if_pos hp, List.getElem?_drop]
theorem run_eqL {xs ys : List AC} {vs us : List Value} (hx : relL ι xs vs) (hy : relL ι ys us) (d : Nat) {f : Field} (h2 : basicK P f.type ≠ 0) {b : Bool} (h : eqF [(f.offset, basicK P f.type)] xs ys = some b) :
  ∃ v u, (part f.type vs.toArray f.offset).run P w = .ok v w ∧ (part f.type us.toArray f.offset).run P w = .ok u w ∧ (Op.equalIn (d + 1) f.type v u).run P w = .ok b w := by
 simp only [eqF] at h
 generalize hp : xs[f.offset]? = p at h
 generalize hq : ys[f.offset]? = q at h
 generalize hk : basicK P f.type = k at h
 have hu : (k = 1 → ∃ q, P.underlying f.type = some (.int q)) ∧ (k = 2 → P.underlying f.type = some .bool) ∧ (k = 3 → P.underlying f.type = some .string) := by
  unfold basicK at hk
  split at hk <;> subst hk <;> simp_all
 unfold eqC at h
 split at h
 ·split at h
  ·rename_i hkk
   subst hkk
   injection h with h
   obtain ⟨v, h4, h5⟩ := relL_at hx hp
   obtain ⟨u, h6, h7⟩ := relL_at hy hq
   simp only [AC.rel] at h5 h7
   subst h5; subst h7
   obtain ⟨q', hq'⟩ := hu.1 rfl
   rename_i r hr
   refine ⟨_, _, run_part h2 h4, run_part h2 h6, ?_⟩
   rw [run_equalIn_int w d f.type _ q' _ _ hq', ← h]
   injection hr with hr
   simp [← hr]
  ·cases h
 ·injection h with h
  obtain ⟨v, h4, h5⟩ := relL_at hx hp
  obtain ⟨u, h6, h7⟩ := relL_at hy hq
  simp only [AC.rel] at h5 h7
  subst h5; subst h7
  rename_i r hr
  refine ⟨_, _, run_part h2 h4, run_part h2 h6, ?_⟩
  rw [run_equalIn_bool' w d f.type _ _ (hu.2.1 rfl), ← h]
  injection hr with hr
  simp [← hr]
 ·injection h with h
  obtain ⟨v, h4, h5⟩ := relL_at hx hp
  obtain ⟨u, h6, h7⟩ := relL_at hy hq
  simp only [AC.rel] at h5 h7
  subst h5; subst h7
  rename_i r hr
  refine ⟨_, _, run_part h2 h4, run_part h2 h6, ?_⟩
  rw [run_equalIn_string w d f.type _ _ (hu.2.2 rfl), ← h]
  injection hr with hr
  simp [← hr]
 ·cases h
theorem run_fields {vs us : Array Value} {d : Nat} {f : Field} {fs : List Field} {v u : Value} {b1 b2 : Bool} (h1 : ¬ f.name = "_") (h4 : (part f.type vs f.offset).run P w = .ok v w) (h6 : (part f.type us f.offset).run P w = .ok u w) (h8 : (Op.equalIn d f.type v u).run P w = .ok b1 w)
  (h10 : (Op.eqFields d vs us fs).run P w = .ok b2 w) : (Op.eqFields d vs us (f :: fs)).run P w = .ok (b1 && b2) w := by
 simp only [Op.eqFields, ne_eq, h1, not_false_eq_true, if_true, Sem.run_bind, h4, h6, Result.andThen_ok, h8]
 cases b1
 ·simp
 ·simp [h10]
theorem run_eqF0 {xs ys : List AC} {vs us : List Value} (hx : relL ι xs vs) (hy : relL ι ys us) (d : Nat) : ∀ (fs : List Field) (b : Bool), (fs.all fun f => plainF P f) = true → eqF (fs.map fun f => (f.offset, basicK P f.type)) xs ys = some b → (Op.eqFields (d + 1) vs.toArray us.toArray fs).run P w = .ok b w
 | [], b, _, h => by
  simp only [List.map_nil, eqF, Option.some.injEq] at h
  subst h; rfl
 | f :: fs, b, hall, h => by
  simp only [List.all_cons, plainF, Bool.and_eq_true, bne_iff_ne, ne_eq] at hall
  obtain ⟨⟨h1, h2⟩, h3⟩ := hall
  rw [List.map_cons, ← List.singleton_append] at h
  obtain ⟨b1, b2, g1, g2, rfl⟩ := eqF_append _ _ _ _ _ h
  obtain ⟨v, u, k1, k2, k3⟩ := run_eqL (w := w) hx hy d h2 g1
  exact run_fields h1 k1 k2 k3 (run_eqF0 hx hy d fs b2 (by simpa [plainF] using h3) g2)
theorem run_agg {t : TypeId} {gs : Array Field} (h : P.underlying t = some (.struct gs)) : (isAgg t).run P w = .ok true w := by
 unfold isAgg; rw [Sem.run_bind, run_underlying h]; rfl
theorem run_partA {t : TypeId} {gs : Array Field} (h : P.underlying t = some (.struct gs)) (hi : (P.info? t).isSome = true) (vs : List Value) (o : Nat) : (part t vs.toArray o).run P w = .ok (.agg ((vs.drop o).take (szT P t)).toArray) w := by
 unfold part
 rw [Sem.run_bind, run_agg h, Result.andThen_ok]
 simp only [if_true, Sem.run_bind, run_sizeOf0 hi, Result.andThen_ok, Sem.run_pure]
 congr 2
 apply Array.ext'
 simp [List.extract_eq_take_drop]
theorem run_leafs {xs ys : List AC} {vs us : List Value} (hx : relL ι xs vs) (hy : relL ι ys us) (d : Nat) : ∀ (fs : List Field) (l : List (Nat × Nat)) (b : Bool), leafsK P fs = some l → eqF l xs ys = some b → (Op.eqFields (d + 2) vs.toArray us.toArray fs).run P w = .ok b w
 | [], l, b, hl, h => by
  simp only [leafsK, Option.some.injEq] at hl
  subst hl
  simp only [eqF, Option.some.injEq] at h
  subst h; rfl
 | f :: fs, l, b, hl, h => by
  unfold leafsK at hl
  split at hl
  ·rename_i h1
   have h1 : ¬ f.name = "_" := by simpa using h1
   split at hl
   ·rename_i a m ha hm
    injection hl with hl
    subst hl
    obtain ⟨b1, b2, g1, g2, rfl⟩ := eqF_append _ _ _ _ _ h
    have ih := run_leafs hx hy d fs m b2 hm g2
    unfold leafK at ha
    split at ha
    ·rename_i h2
     injection ha with ha
     subst ha
     obtain ⟨v, u, k1, k2, k3⟩ := run_eqL (w := w) hx hy (d + 1) (by simpa using h2) g1
     exact run_fields h1 k1 k2 k3 ih
    ·split at ha
     ·rename_i gs hgs
      split at ha
      ·rename_i hc
       simp only [Bool.and_eq_true, Bool.not_eq_true', List.all_eq_true, decide_eq_true_eq] at hc
       obtain ⟨⟨c1, c2⟩, c3⟩ := hc
       injection ha with ha
       subst ha
       have e : (gs.toList.map fun g => (f.offset + g.offset, basicK P g.type)) = ((gs.toList.map fun g => (g.offset, basicK P g.type)).map fun p => (f.offset + p.1, p.2)) := by simp [Function.comp_def]
       rw [e, eqF_shift f.offset (szT P f.type)] at g1
       ·have hf : P.fieldsOf f.type = gs := by unfold Program.fieldsOf; rw [hgs]
        have hr := run_eqF0 (w := w) (relL_take (szT P f.type) (relL_drop f.offset hx)) (relL_take (szT P f.type) (relL_drop f.offset hy)) d gs.toList b1 (by rw [List.all_eq_true]; exact fun g hg => (c3 g hg).1) g1
        refine run_fields h1 (run_partA hgs c2 vs f.offset) (run_partA hgs c2 us f.offset) ?_ ih
        rw [run_equalIn_struct w (d + 1) _ _ _ (by rw [hf]; exact hgs) c1, hf]
        exact hr
       ·intro p hp
        obtain ⟨g, hg, rfl⟩ := List.mem_map.1 hp
        exact (c3 g hg).2
      ·cases ha
     ·cases ha
   ·cases hl
  ·cases hl
theorem run_leafs2 {xs ys : List AC} {vs us : List Value} (hx : relL ι xs vs) (hy : relL ι ys us) (d : Nat) : ∀ (fs : List Field) (l : List (Nat × Nat)) (b : Bool), leafsK2 P fs = some l → eqF l xs ys = some b → (Op.eqFields (d + 3) vs.toArray us.toArray fs).run P w = .ok b w
 | [], l, b, hl, h => by
  simp only [leafsK2, Option.some.injEq] at hl
  subst hl
  simp only [eqF, Option.some.injEq] at h
  subst h; rfl
 | f :: fs, l, b, hl, h => by
  unfold leafsK2 at hl
  split at hl
  ·rename_i h1
   have h1 : ¬ f.name = "_" := by simpa using h1
   split at hl
   ·rename_i a m ha hm
    injection hl with hl
    subst hl
    obtain ⟨b1, b2, g1, g2, rfl⟩ := eqF_append _ _ _ _ _ h
    have ih := run_leafs2 hx hy d fs m b2 hm g2
    unfold leafK2 at ha
    split at ha
    ·rename_i h2
     injection ha with ha
     subst ha
     obtain ⟨v, u, k1, k2, k3⟩ := run_eqL (w := w) hx hy (d + 2) (by simpa using h2) g1
     exact run_fields h1 k1 k2 k3 ih
    ·split at ha
     ·rename_i gs hgs
      split at ha
      ·rename_i lg hlg
       split at ha
       ·rename_i hc
        simp only [Bool.and_eq_true, Bool.not_eq_true', List.all_eq_true, decide_eq_true_eq] at hc
        obtain ⟨⟨c1, c2⟩, c3⟩ := hc
        injection ha with ha
        subst ha
        rw [eqF_shift f.offset (szT P f.type) xs ys lg c3] at g1
        have hf : P.fieldsOf f.type = gs := by unfold Program.fieldsOf; rw [hgs]
        have hr := run_leafs (w := w) (relL_take (szT P f.type) (relL_drop f.offset hx)) (relL_take (szT P f.type) (relL_drop f.offset hy)) d gs.toList lg b1 hlg g1
        refine run_fields h1 (run_partA hgs c2 vs f.offset) (run_partA hgs c2 us f.offset) ?_ ih
        rw [run_equalIn_struct w (d + 2) _ _ _ (by rw [hf]; exact hgs) c1, hf]
        exact hr
       ·cases ha
      ·cases ha
     ·cases ha
   ·cases hl
  ·cases hl
theorem kind_ptr {t : TypeId} (h : kindT P t = 2) : ∃ e, P.underlying t = some (.pointer e) := by
 unfold kindT at h; split at h <;> first | (cases h; done) | exact ⟨_, by assumption⟩
theorem kind_sl {t : TypeId} (h : kindT P t = 3) : ∃ e, P.underlying t = some (.slice e) := by
 unfold kindT at h; split at h <;> first | (cases h; done) | exact ⟨_, by assumption⟩
theorem kind_map {t : TypeId} (h : kindT P t = 4) : ∃ k e, P.underlying t = some (.map k e) := by
 unfold kindT at h; split at h <;> first | (cases h; done) | exact ⟨_, _, by assumption⟩
theorem kind_bool {t : TypeId} (h : kindT P t = 1) : P.underlying t = some .bool := by
 unfold kindT at h; split at h <;> first | (cases h; done) | assumption
theorem run_eqIn_p (d : Nat) {t e : TypeId} (h : P.underlying t = some (.pointer e)) (p : Option Addr) : (Op.equalIn (d + 1) t (.pointer p) (.pointer none)).run P w = .ok p.isNone w := by
 cases p <;> simp [Op.equalIn, run_underlying h]
theorem run_equal_p {t e : TypeId} (h : P.underlying t = some (.pointer e)) (p : Option Addr) : (Op.equal t (.pointer p) (.pointer none)).run P w = .ok p.isNone w := run_eqIn_p 9999 h p
theorem run_eqIn_s (d : Nat) {t e : TypeId} (h : P.underlying t = some (.slice e)) (p : Option Addr) (n c : Nat) : (Op.equalIn (d + 1) t (.slice p n c) (.slice none 0 0)).run P w = .ok p.isNone w := by
 cases p <;> simp [Op.equalIn, run_underlying h]
theorem run_equal_s {t e : TypeId} (h : P.underlying t = some (.slice e)) (p : Option Addr) (n c : Nat) : (Op.equal t (.slice p n c) (.slice none 0 0)).run P w = .ok p.isNone w := run_eqIn_s 9999 h p n c
theorem run_eqIn_m (d : Nat) {t k e : TypeId} (h : P.underlying t = some (.map k e)) (p : Option Nat) : (Op.equalIn (d + 1) t (.map p) (.map none)).run P w = .ok p.isNone w := by
 cases p <;> simp [Op.equalIn, run_underlying h]
theorem run_equal_m {t k e : TypeId} (h : P.underlying t = some (.map k e)) (p : Option Nat) : (Op.equal t (.map p) (.map none)).run P w = .ok p.isNone w := run_eqIn_m 9999 h p
theorem kind_ifc {t : TypeId} (h : kindT P t = 6) : ∃ ms, P.underlying t = some (.interface ms) := by
 unfold kindT at h; split at h <;> first | (cases h; done) | exact ⟨_, by assumption⟩
theorem run_eqIn_i0 (d : Nat) {t : TypeId} {ms : Array (String × TypeId)} (h : P.underlying t = some (.interface ms)) : (Op.equalIn (d + 1) t .nilIface .nilIface).run P w = .ok true w := by
 simp [Op.equalIn, run_underlying h]
theorem run_eqIn_i1 (d : Nat) {t : TypeId} {ms : Array (String × TypeId)} (h : P.underlying t = some (.interface ms)) (q : TypeId) (v : Value) : (Op.equalIn (d + 1) t (.iface q v) .nilIface).run P w = .ok false w := by
 simp [Op.equalIn, run_underlying h]
theorem run_equal_i0 {t : TypeId} {ms : Array (String × TypeId)} (h : P.underlying t = some (.interface ms)) : (Op.equal t .nilIface .nilIface).run P w = .ok true w := run_eqIn_i0 9999 h
theorem run_equal_i1 {t : TypeId} {ms : Array (String × TypeId)} (h : P.underlying t = some (.interface ms)) (q : TypeId) (v : Value) : (Op.equal t (.iface q v) .nilIface).run P w = .ok false w := run_eqIn_i1 9999 h q v
theorem run_eqTop {t : TypeId} {xs ys : List AC} {vs us : List Value} (hx : relL ι xs vs) (hy : relL ι ys us) {b : Bool} (h : (fieldsK P t).bind (fun l => eqF l xs ys) = some b) :
  (∀ (op : BinOp) (X Y : Operand), (eqGuard op t X Y (.agg vs.toArray) (.agg us.toArray)).run P w = .ok () w) ∧ (Op.equalIn 10000 t (.agg vs.toArray) (.agg us.toArray)).run P w = .ok b w := by
 unfold fieldsK at h
 split at h
 ·cases h
 ·rename_i hg
  simp only [Bool.or_eq_true, not_or, Bool.not_eq_true] at hg
  split at h
  ·rename_i fs hu
   cases hl : leafsK2 P fs.toList with
   | none => rw [hl] at h; cases h
   | some l =>
    rw [hl] at h
    have hf : P.fieldsOf t = fs := by unfold Program.fieldsOf; rw [hu]
    refine ⟨fun op X Y => run_eqGuard_agg w op t X Y _ _ hg.2, ?_⟩
    rw [show (10000 : Nat) = 9999 + 1 from rfl, run_equalIn_struct w 9999 t _ _ (by rw [hf]; exact hu) hg.1, hf]
    exact run_leafs2 hx hy 9996 _ l b hl (by simpa using h)
  ·cases h
theorem aBinT_run {op : BinOp} {x y : AV} {v u : Value} {K : AV → Prop} {t : TypeId} (h : aBinT P t op x y K) (hx : x.rel ι v) (hy : y.rel ι u) :
  ((∃ p, x = .c p) ∨ ∀ (X Y : Operand), (eqGuard op t X Y v u).run P w = .ok () w) ∧ BinR P w ι n K (binOp op t v u) := by
 unfold aBinT at h
 split at h
 ·have hx1 : v = _ := hx; have hy1 : u = _ := hy; subst hx1; subst hy1
  exact ⟨.inl ⟨_, rfl⟩, bin_bool h.2 (by simp [binOp, run_equal_bool w t _ _ (kind_bool h.1)])⟩
 ·have hx1 : v = _ := hx; have hy1 : u = _ := hy; subst hx1; subst hy1
  exact ⟨.inl ⟨_, rfl⟩, bin_bool h.2 (by simp [binOp, run_equal_bool w t _ _ (kind_bool h.1)])⟩
 ·rename_i r
  obtain ⟨e, he⟩ := kind_ptr h.1
  have hy1 : u = .pointer none := hy
  subst hy1
  cases r with
  | none => have hx1 : v = .pointer none := hx
            subst hx1
            exact ⟨.inl ⟨_, rfl⟩, bin_bool h.2 (by simp [binOp, run_equal_p he])⟩
  | some p => have hx1 : v = ptrOf ι p := hx
              subst hx1
              exact ⟨.inl ⟨_, rfl⟩, bin_bool h.2 (by simp [binOp, ptrOf, run_equal_p he])⟩
 ·rename_i r
  obtain ⟨e, he⟩ := kind_ptr h.1
  have hy1 : u = .pointer none := hy
  subst hy1
  cases r with
  | none => have hx1 : v = .pointer none := hx
            subst hx1
            exact ⟨.inl ⟨_, rfl⟩, bin_bool h.2 (by simp [binOp, run_equal_p he])⟩
  | some p => have hx1 : v = ptrOf ι p := hx
              subst hx1
              exact ⟨.inl ⟨_, rfl⟩, bin_bool h.2 (by simp [binOp, ptrOf, run_equal_p he])⟩
 ·obtain ⟨e, he⟩ := kind_ptr h.1
  have hy1 : u = .pointer none := hy
  subst hy1
  obtain ⟨b, o, rfl, _⟩ : ∃ b o, v = .pointer (some ⟨b, o, none⟩) ∧ True := by
   have hx : AC.rel ι (.fp _) v := hx
   simp only [AC.rel, AC.relZ] at hx; obtain ⟨b, o, h1, _⟩ := hx; exact ⟨b, o, h1, trivial⟩
  exact ⟨.inl ⟨_, rfl⟩, bin_bool h.2 (by simp [binOp, run_equal_p he])⟩
 ·obtain ⟨e, he⟩ := kind_ptr h.1
  have hy1 : u = .pointer none := hy
  subst hy1
  obtain ⟨b, o, rfl, _⟩ : ∃ b o, v = .pointer (some ⟨b, o, none⟩) ∧ True := by
   have hx : AC.rel ι (.fp _) v := hx
   simp only [AC.rel, AC.relZ] at hx; obtain ⟨b, o, h1, _⟩ := hx; exact ⟨b, o, h1, trivial⟩
  exact ⟨.inl ⟨_, rfl⟩, bin_bool h.2 (by simp [binOp, run_equal_p he])⟩
 ·rename_i r _ _
  obtain ⟨e, he⟩ := kind_sl h.1
  obtain ⟨_, rfl⟩ := hy
  cases r with
  | none => obtain ⟨_, rfl⟩ := hx
            exact ⟨.inl ⟨_, rfl⟩, bin_bool h.2 (by simp [binOp, run_equal_s he])⟩
  | some p => obtain ⟨ad, rfl, _⟩ := hx
              exact ⟨.inl ⟨_, rfl⟩, bin_bool h.2 (by simp [binOp, run_equal_s he])⟩
 ·rename_i r _ _
  obtain ⟨e, he⟩ := kind_sl h.1
  obtain ⟨_, rfl⟩ := hy
  cases r with
  | none => obtain ⟨_, rfl⟩ := hx
            exact ⟨.inl ⟨_, rfl⟩, bin_bool h.2 (by simp [binOp, run_equal_s he])⟩
  | some p => obtain ⟨ad, rfl, _⟩ := hx
              exact ⟨.inl ⟨_, rfl⟩, bin_bool h.2 (by simp [binOp, run_equal_s he])⟩
 ·rename_i r
  obtain ⟨k, e, he⟩ := kind_map h.1
  have hy1 : u = .map none := hy
  subst hy1
  cases r <;> (have hx1 : v = _ := hx; subst hx1; exact ⟨.inl ⟨_, rfl⟩, bin_bool h.2 (by simp [binOp, run_equal_m he])⟩)
 ·rename_i r
  obtain ⟨k, e, he⟩ := kind_map h.1
  have hy1 : u = .map none := hy
  subst hy1
  cases r <;> (have hx1 : v = _ := hx; subst hx1; exact ⟨.inl ⟨_, rfl⟩, bin_bool h.2 (by simp [binOp, run_equal_m he])⟩)
 ·obtain ⟨b, h1, h2⟩ := h
  obtain ⟨vs, rfl, h3⟩ := hx
  obtain ⟨us, rfl, h4⟩ := hy
  obtain ⟨h5, h6⟩ := run_eqTop (P := P) (w := w) h3 h4 h1
  exact ⟨.inr fun X Y => h5 _ X Y, bin_bool h2 (by rw [run_eql_struct, h6]; rfl)⟩
 ·obtain ⟨b, h1, h2⟩ := h
  obtain ⟨vs, rfl, h3⟩ := hx
  obtain ⟨us, rfl, h4⟩ := hy
  obtain ⟨h5, h6⟩ := run_eqTop (P := P) (w := w) h3 h4 h1
  exact ⟨.inr fun X Y => h5 _ X Y, bin_bool h2 (by rw [run_neq_struct, h6]; rfl)⟩
 ·refine ⟨.inl ?_, aBin_run h hx hy⟩
  unfold aBin at h
  split at h <;> first | exact h.elim | exact ⟨_, rfl⟩
/-! ### a slice and nil -/
def isNilS : Operand → Bool
 | .const (.slice none _ _) => true
 | _ => false
def aBinN (P : Program) (t : TypeId) (op : BinOp) (x y : AV) (nl : Bool) (K : AV → Prop) : Prop :=
 match nl, op, x, y with
 | true, .eql, .c (.lst _ els), .c (.sl none _) => kindT P t = 3 ∧ ∀ b : Bool, (els ≠ [] → b = false) → K (.c (.bool b))
 | true, .neq, .c (.lst _ els), .c (.sl none _) => kindT P t = 3 ∧ ∀ b : Bool, (els ≠ [] → b = true) → K (.c (.bool b))
 | _, _, _, _ => aBinT P t op x y K
def isNilI : Operand → Bool
 | .const .nilIface => true
 | _ => false
def aNilI (P : Program) (t : TypeId) (op : BinOp) (x : AV) (K : AV → Prop) : Prop :=
 match op, x with
 | .eql, .c .nili => kindT P t = 6 ∧ K (.c (.bool true))
 | .neq, .c .nili => kindT P t = 6 ∧ K (.c (.bool false))
 | .eql, .c .ifc => kindT P t = 6 ∧ K (.c (.bool false))
 | .neq, .c .ifc => kindT P t = 6 ∧ K (.c (.bool true))
 | _, _ => False
def aBinO (P : Program) (t : TypeId) (op : BinOp) (x y : AV) (nl ni : Bool) (K : AV → Prop) : Prop := match ni with
 | true => aNilI P t op x K
 | false => aBinN P t op x y nl K
theorem isNilI_spec {y : Operand} (h : isNilI y = true) : y = .const .nilIface := by
 unfold isNilI at h
 split at h
 ·rfl
 ·cases h
theorem run_guard0 {op : BinOp} {t : TypeId} {x y : Operand} {v : Value} (h : y = .const .nilIface) (hv : v = .nilIface ∨ ∃ q z, v = .iface q z) : (eqGuard op t x y v .nilIface).run P w = .ok () w := by
 subst h
 rcases hv with rfl | ⟨q, z, rfl⟩
 ·cases op <;> first | rfl | simp [eqGuard]
 ·cases op <;> rfl
theorem aNilI_run {op : BinOp} {x : AV} {v : Value} {K : AV → Prop} {t : TypeId} {X y : Operand} (h : aNilI P t op x K) (hx : x.rel ι v) (hy : y = .const .nilIface) : (eqGuard op t X y v .nilIface).run P w = .ok () w ∧ BinR P w ι n K (binOp op t v .nilIface) := by
 unfold aNilI at h
 split at h
 ·obtain ⟨ms, he⟩ := kind_ifc h.1
  have hx1 : v = .nilIface := hx
  subst hx1
  exact ⟨run_guard0 hy (.inl rfl), bin_bool h.2 (by simp [binOp, run_equal_i0 he])⟩
 ·obtain ⟨ms, he⟩ := kind_ifc h.1
  have hx1 : v = .nilIface := hx
  subst hx1
  exact ⟨run_guard0 hy (.inl rfl), bin_bool h.2 (by simp [binOp, run_equal_i0 he])⟩
 ·obtain ⟨ms, he⟩ := kind_ifc h.1
  obtain ⟨q, z, rfl⟩ : ∃ q z, v = .iface q z := hx
  exact ⟨run_guard0 hy (.inr ⟨q, z, rfl⟩), bin_bool h.2 (by simp [binOp, run_equal_i1 he])⟩
 ·obtain ⟨ms, he⟩ := kind_ifc h.1
  obtain ⟨q, z, rfl⟩ : ∃ q z, v = .iface q z := hx
  exact ⟨run_guard0 hy (.inr ⟨q, z, rfl⟩), bin_bool h.2 (by simp [binOp, run_equal_i1 he])⟩
 ·exact h.elim
theorem aBinN_run {op : BinOp} {x y : AV} {nl : Bool} {v u : Value} {K : AV → Prop} {t : TypeId} (h : aBinN P t op x y nl K) (hx : x.rel ι v) (hy : y.rel ι u) :
  ((∃ p, x = .c p) ∨ ∀ (X Y : Operand), (eqGuard op t X Y v u).run P w = .ok () w) ∧ BinR P w ι n K (binOp op t v u) := by
 unfold aBinN at h
 split at h
 ·rename_i sz els q
  obtain ⟨e, he⟩ := kind_sl h.1
  obtain ⟨_, rfl⟩ := hy
  have hx : AC.rel ι (.lst sz els) v := hx
  simp only [AC.rel, AC.relZ] at hx
  obtain ⟨p, c, rfl, _, _, h4, _⟩ := hx
  exact ⟨.inl ⟨_, rfl⟩, bin_bool (z := p.isNone) (h.2 _ (fun hne => by cases p with | none => exact absurd (h4 rfl).1 hne | some a => rfl)) (by simp [binOp, run_equal_s he])⟩
 ·rename_i sz els q
  obtain ⟨e, he⟩ := kind_sl h.1
  obtain ⟨_, rfl⟩ := hy
  have hx : AC.rel ι (.lst sz els) v := hx
  simp only [AC.rel, AC.relZ] at hx
  obtain ⟨p, c, rfl, _, _, h4, _⟩ := hx
  exact ⟨.inl ⟨_, rfl⟩, bin_bool (z := !p.isNone) (h.2 _ (fun hne => by cases p with | none => exact absurd (h4 rfl).1 hne | some a => rfl)) (by simp [binOp, run_equal_s he])⟩
 ·exact aBinT_run h hx hy
end
end Go.Proofs.YtagoolooikpabaaGreatDoor
namespace Go.Proofs.YtagoolooikpabaaGreatDoor
open Go Go.RowKit
section
variable {P : Program} {B : Nat → Prop} {rr : Option Nat} {dd : List Deferred} {w0 w w' : World} {ι ι' : En} {H : Hp} {F : Fr} {a : Act} {N n m : Nat} {Q : Exit → Act → World → Prop} {next : Act → World → Prop} {o : Oper}
theorem relL_build : ∀ (cs : List AC) (f : Nat → Option Value), (∀ (j : Nat) (x : AC), cs[j]? = some x → ∃ u, f j = some u ∧ x.rel ι u) → ∃ vs, relL ι cs vs ∧ ∀ (j : Nat) (v : Value), vs[j]? = some v → f j = some v
 | [], _, _ => ⟨[], trivial, fun j v h => by simp at h⟩
 | x :: cs, f, h => by
  obtain ⟨u, h1, h2⟩ := h 0 x rfl
  obtain ⟨vs, h3, h4⟩ := relL_build cs (fun j => f (j + 1)) (fun j y hj => h (j + 1) y (by simpa using hj))
  refine ⟨u :: vs, ⟨h2, h3⟩, fun j v hj => ?_⟩
  cases j with
  | zero => simp at hj; subst hj; exact h1
  | succ j => simp at hj; exact h4 j v hj
theorem row_cell {L : Loc} {ty sz : Nat} {els : List (List AC)} {own : Bool} (h : (AObj.row ty sz els own).holds ι w L) {k j : Nat} {e : List AC} {x : AC} (hk : els[k]? = some e) (hj : e[j]? = some x) :
  ∃ u, w.cell? (L.at k j) = some u ∧ x.rel ι u := by
 obtain ⟨h1, _, cur, fr, h3, h4, _⟩ := h
 obtain ⟨u, h5, h6⟩ := h4 k e hk j x hj
 refine ⟨u, ?_, h6⟩
 simp only [World.cell?, Loc.at, h3, h1]
 simpa using h5
theorem at_add (L : Loc) (k j q : Nat) : (L.at k j).add q = L.at k (j + q) := by
 unfold Addr.add Loc.at
 split
 ·subst_vars; rfl
 ·simp [Nat.add_assoc]
theorem add_none (b o k : Nat) : (⟨b, o, none⟩ : Addr).add k = ⟨b, o + k, none⟩ := by
 unfold Addr.add
 split
 ·subst_vars; rfl
 ·rfl
theorem run_loadVar_c {ad : Addr} {u : Value} {t : TypeId} (h1 : w.cell? ad = some u) (ht : aggT P t = false) (hu : (P.underlying t).isSome = true) : (loadVar t ad).run P w = .ok u w := by
 obtain ⟨d, hd⟩ := Option.isSome_iff_exists.1 hu
 unfold aggT at ht
 rw [hd] at ht
 have : (isAgg t).run P w = .ok false w := by
  unfold isAgg
  rw [Sem.run_bind, run_underlying hd]
  cases d <;> simp_all
 unfold loadVar
 rw [Sem.run_bind, this]
 simp [h1]
theorem froz_cell {b o : Nat} {u : Value} (hs : Sim B w0 ι H w) (h : ι.fz b o = some u) : w.cell? ⟨b, o, none⟩ = some u := by
 obtain ⟨cur, ty, fr, h1, h2⟩ := hs.froz b o u h
 simp only [World.cell?, h1]
 simpa using h2
theorem fp_cell {cs : List AC} {b o : Nat} (hs : Sim B w0 ι H w) (h : relCells ι.fz cs b o) {j : Nat} {x : AC} (hj : cs[j]? = some x) : ∃ u, w.cell? ⟨b, o + j, none⟩ = some u ∧ x.rel ι u := by
 obtain ⟨u, h1, h2⟩ := relCells_get h j x hj
 exact ⟨u, froz_cell hs h1, AC.rel_of_relZ h2⟩
theorem run_load_c {i k j : Nat} {ty sz : Nat} {els : List (List AC)} {own : Bool} {e : List AC} {x : AC} {t : TypeId} (hs : Sim B w0 ι H w) (hi : H[i]? = some (.row ty sz els own)) (hk : els[k]? = some e) (hj : e[j]? = some x) (ht : aggT P t = false) (hu : (P.underlying t).isSome = true) :
  ∃ u, (loadVar t ((ι i).at k j)).run P w = .ok u w ∧ x.rel ι u := by
 obtain ⟨u, h1, h2⟩ := row_cell (hs.obj i _ hi) hk hj
 refine ⟨u, ?_, h2⟩
 obtain ⟨d, hd⟩ := Option.isSome_iff_exists.1 hu
 unfold aggT at ht
 rw [hd] at ht
 have : (isAgg t).run P w = .ok false w := by
  unfold isAgg
  rw [Sem.run_bind, run_underlying hd]
  cases d <;> simp_all
 unfold loadVar
 rw [Sem.run_bind, this]
 simp [h1]
theorem run_isAgg {t : TypeId} (ht : aggT P t = true) (w : World) : (isAgg t).run P w = .ok true w := by
 unfold aggT at ht
 split at ht
 ·rename_i h; unfold isAgg; rw [Sem.run_bind, run_underlying h]; rfl
 ·rename_i h; unfold isAgg; rw [Sem.run_bind, run_underlying h]; rfl
 ·cases ht
theorem run_sizeOf {t : TypeId} (h : (P.info? t).isSome = true) (w : World) : (sizeOf t).run P w = .ok (szT P t) w := by
 obtain ⟨i, hi⟩ := Option.isSome_iff_exists.1 h
 simp [sizeOf, typeInfo, hi, szT]
theorem run_load_agg {i k j : Nat} {ty sz : Nat} {els : List (List AC)} {own : Bool} {e : List AC} {t : TypeId} (hs : Sim B w0 ι H w) (hi : H[i]? = some (.row ty sz els own)) (hk : els[k]? = some e) (hj : j + szT P t ≤ e.length) (ht : aggT P t = true) (hinfo : (P.info? t).isSome = true) :
  ∃ vs : List Value, (loadVar t ((ι i).at k j)).run P w = .ok (.agg vs.toArray) w ∧ relL ι ((e.drop j).take (szT P t)) vs := by
 have hc : ∀ (q : Nat) (x : AC), ((e.drop j).take (szT P t))[q]? = some x → ∃ u, w.cell? (((ι i).at k j).add q) = some u ∧ x.rel ι u := by
  intro q x hx
  rw [List.getElem?_take] at hx
  split at hx
  ·rw [List.getElem?_drop] at hx
   rw [at_add]
   exact row_cell (hs.obj i _ hi) hk hx
  ·cases hx
 obtain ⟨vs, h1, h2⟩ := relL_build _ _ hc
 refine ⟨vs, ?_, h1⟩
 have hlen : vs.length = szT P t := by
  rw [← relL_len h1, List.length_take, List.length_drop]; omega
 have := run_loadCells_list (P := P) w ((ι i).at k j) vs h2
 rw [hlen] at this
 unfold loadVar
 rw [Sem.run_bind, run_isAgg ht, Result.andThen_ok, if_pos rfl, Sem.run_bind, run_sizeOf hinfo, Result.andThen_ok, Sem.run_bind, this]
 rfl
theorem run_load_fagg {cs : List AC} {b o : Nat} {t : TypeId} (hs : Sim B w0 ι H w) (h : relCells ι.fz cs b o) (hj : szT P t ≤ cs.length) (ht : aggT P t = true) (hinfo : (P.info? t).isSome = true) :
  ∃ vs : List Value, (loadVar t ⟨b, o, none⟩).run P w = .ok (.agg vs.toArray) w ∧ relL ι (cs.take (szT P t)) vs := by
 have hc : ∀ (q : Nat) (x : AC), (cs.take (szT P t))[q]? = some x → ∃ u, w.cell? ((⟨b, o, none⟩ : Addr).add q) = some u ∧ x.rel ι u := by
  intro q x hx
  rw [List.getElem?_take] at hx
  split at hx
  ·rw [add_none]; exact fp_cell hs h hx
  ·cases hx
 obtain ⟨vs, h1, h2⟩ := relL_build _ _ hc
 refine ⟨vs, ?_, h1⟩
 have hlen : vs.length = szT P t := by
  rw [← relL_len h1, List.length_take]; omega
 have := run_loadCells_list (P := P) w ⟨b, o, none⟩ vs h2
 rw [hlen] at this
 unfold loadVar
 rw [Sem.run_bind, run_isAgg ht, Result.andThen_ok, if_pos rfl, Sem.run_bind, run_sizeOf hinfo, Result.andThen_ok, Sem.run_bind, this]
 rfl
/-! ### A store -/
def setC (e : List AC) (j : Nat) (cs : List AC) : List AC := e.take j ++ cs ++ e.drop (j + cs.length)
theorem splice_get {α : Type} (l : List α) (o : Nat) (m : List α) (p : Nat) (ho : o + m.length ≤ l.length) :
  (l.take o ++ m ++ l.drop (o + m.length))[p]? = if p < o then l[p]? else if p < o + m.length then m[p - o]? else l[p]? := by
 have h1 : (l.take o).length = o := by rw [List.length_take]; omega
 by_cases hp : p < o
 ·rw [if_pos hp, List.append_assoc, List.getElem?_append_left oMg, List.getElem?_take, if_pos hp]
 ·rw [if_neg hp, List.append_assoc, List.getElem?_append_right oMg, h1]
  by_cases hp2 : p < o + m.length
  ·rw [if_pos hp2, List.getElem?_append_left oMg]
  ·rw [if_neg hp2, List.getElem?_append_right oMg, List.getElem?_drop]
   congr 1; omega
theorem mul_apart {k k' sz j j' : Nat} (h : k < k') (hj : j < sz) : k * sz + j < k' * sz + j' := by
 have h1 : (k + 1) * sz ≤ k' * sz := Nat.mul_le_mul_right _ h
 rw [Nat.add_mul] at h1; omega
theorem run_store_row {i k j : Nat} {ty sz : Nat} {els : List (List AC)} {e cs : List AC} {vs : List Value} (hs : Sim B w0 ι H w) (hi : H[i]? = some (.row ty sz els true)) (hk : els[k]? = some e) (hj : j + cs.length ≤ sz) (hr : relL ι cs vs) (ho : ∀ x ∈ cs, x.ok H.length) :
  ∃ w', (storeCells ((ι i).at k j) vs 0).run P w = .ok () w' ∧ Sim B w0 ι (H.set i (.row ty sz (els.set k (setC e j cs)) true)) w' := by
 have hlenE := (hs.scope i _ hi e (List.mem_of_getElem? hk)).1
 obtain ⟨h1, h2, cur, fr, h3, h4, h5⟩ := hs.obj i _ hi
 obtain ⟨rfl, hoff, hcs, hcm⟩ := h5 rfl
 have hkl : k < els.length := getElem?_lt hk
 have hlv := relL_len hr
 have hfit : k * sz + j + vs.length ≤ cur.size := by
  have : (k + 1) * sz ≤ (ι i).cap * sz := Nat.mul_le_mul_right _ oMg
  rw [Nat.add_mul] at this; omega
 have hone : ∀ v ∈ vs, v.oneCell' = true := by
  intro v hv
  obtain ⟨q, hq⟩ := List.getElem?_of_mem hv
  have hq' : q < cs.length := by rw [hlv]; exact getElem?_lt hq
  obtain ⟨u, h6, h7⟩ := relL_get hr q cs[q] (by simp [hq'])
  rw [hq] at h6; injection h6 with h6; subst h6
  exact AC.rel_one h7
 have hat : (ι i).at k j = ⟨(ι i).block, k * sz + j, none⟩ := by simp [Loc.at, hoff, h1]
 have hrun := run_storeCells_at P (ι i).block (k * sz + j) ty vs 0 cur w h3 (by simpa using hfit) hone
 simp only [Nat.add_zero] at hrun
 rw [hat]
 refine ⟨_, hrun, hs.set hi rfl (fun q hq => setRow_other w _ q _ hq) (setRow_size _ _ _) rfl rfl rfl ?_ ?_⟩
 ·intro x hx
  rcases List.mem_or_eq_of_mem_set hx with hx | rfl
  ·exact hs.scope i _ hi x hx
  ·refine ⟨by simp [setC]; omega, fun y hy => ?_⟩
   simp only [setC, List.mem_append] at hy
   rcases hy with (hy | hy) | hy
   ·exact (hs.scope i _ hi e (List.mem_of_getElem? hk)).2 y (List.mem_of_mem_take hy)
   ·exact ho y hy
   ·exact (hs.scope i _ hi e (List.mem_of_getElem? hk)).2 y (List.mem_of_mem_drop hy)
 ·refine ⟨h1, by simpa using h2, _, (0, 0), setRow_heap w _ cur _ ty _ h3, fun k' e' hk' j' x hj' => ?_, fun _ => ⟨rfl, hoff, by simp; omega, hcm⟩⟩
  rw [hoff, Nat.zero_add]
  have hget := splice_get cur.toList (k * sz + j) vs (k' * sz + j') (by simpa using hfit)
  have hold : ∀ {e'' : List AC}, els[k']? = some e'' → e''[j']? = some x → ∃ u, cur[k' * sz + j']? = some u ∧ x.rel ι u := by
   intro e'' ha hb
   have := h4 k' e'' ha j' x hb
   rwa [hoff, Nat.zero_add] at this
  have hcur : ∀ p : Nat, cur.toList[p]? = cur[p]? := fun p => Array.getElem?_toList
  rw [show (cur.toList.take (k * sz + j) ++ vs ++ cur.toList.drop (k * sz + j + vs.length)).toArray[k' * sz + j']? = (cur.toList.take (k * sz + j) ++ vs ++ cur.toList.drop (k * sz + j + vs.length))[k' * sz + j']? by simp, hget, hcur]
  by_cases hkk : k = k'
  ·subst hkk
   rw [List.getElem?_set_self hkl] at hk'
   injection hk' with hk'
   subst hk'
   have hsp := splice_get e j cs j' oMg
   rw [setC] at hj'
   rw [hsp] at hj'
   by_cases c1 : j' < j
   ·rw [if_pos c1] at hj'
    rw [if_pos oMg]
    exact hold hk hj'
   ·rw [if_neg c1] at hj'
    rw [if_neg oMg]
    by_cases c2 : j' < j + cs.length
    ·rw [if_pos c2] at hj'
     rw [if_pos oMg, show k * sz + j' - (k * sz + j) = j' - j by omega]
     exact relL_get hr _ _ hj'
    ·rw [if_neg c2] at hj'
     rw [if_neg oMg]
     exact hold hk hj'
  ·rw [List.getElem?_set_ne hkk] at hk'
   have hj'l : j' < sz := by
    have := (hs.scope i _ hi e' (List.mem_of_getElem? hk')).1
    have := getElem?_lt hj'
    omega
   have hq := hold hk' hj'
   rcases Nat.lt_or_gt_of_ne hkk with hlt | hlt
   ·have := mul_apart (j := j + cs.length - 1) (j' := j') (sz := sz) hlt
    by_cases hz : sz = 0
    ·omega
    ·have h8 := this oMg
     rw [if_neg oMg]
     by_cases hc0 : cs.length = 0
     ·rw [if_neg oMg]; exact hq
     ·rw [if_neg oMg]; exact hq
   ·have := mul_apart (j := j') (j' := j) hlt hj'l
    rw [if_pos oMg]
    exact hq
end
end Go.Proofs.YtagoolooikpabaaGreatDoor
namespace Go.Proofs.YtagoolooikpabaaGreatDoor
open Go Go.RowKit
def AV.cells : AV → Option (List AC)
 | .c x => some [x]
 | .agg cs => some cs
 | _ => none
def ptrs (l : List (Nat × Nat × Nat)) : List AV := l.map fun p => .c (.ptr (some p))
def noTup : AV → Bool
 | .tup _ => false
 | _ => true
def entersB (P : Program) (f : FuncId) : Bool := (P.funcs[f]?).any fun fn => fn.body.isSome && fn.name != "runtime.NumGoroutine"
def ownA (P : Program) (H : Hp) (e : Nat) (r : Option (Nat × Nat)) (n : Nat) (els : List (List AC)) : Prop := match r with
 | none => n = 0 ∧ els = []
 | some p => p.2 = 0 ∧ H[p.1]? = some (.row e (szT P e) els true) ∧ n ≤ els.length
def srcA (P : Program) (H : Hp) (e : Nat) (r2 : Option (Nat × Nat)) (m : Nat) (new : List (List AC)) : Prop := match r2 with
 | none => False
 | some p => ∃ e' els2 own, H[p.1]? = some (.row e' (szT P e) els2 own) ∧ p.2 + m ≤ els2.length ∧ new = (els2.drop p.2).take m
def killA (r : Option (Nat × Nat)) (H : Hp) : Hp := match r with | none => H | some p => H.set p.1 .dead
def baseOf (r : Option (Nat × Nat)) (n : Nat) : Nat := match r with | none => n | some _ => 0
def intT (P : Program) (t : TypeId) : Bool := match P.underlying t with | some (.int _) => true | _ => false
def intK (P : Program) (t : TypeId) : Option IntKind := match P.underlying t with | some (.int k) => some k | _ => none
def fieldK (P : Program) (s : TypeId) (f : Nat) : Option (Nat × Nat × Bool) := match P.underlying s with
 | some (.struct fs) => (match fs[f]? with
  | some x => if (P.info? x.type).isSome = true ∧ (P.underlying x.type).isSome = true then some (x.offset, szT P x.type, aggT P x.type) else none
  | none => none)
 | _ => none
/-! maps: keys are numbers, strings, truth values, or (as long as the map is empty) structs of such -/
def mapTs : List Nat := [75, 79, 82, 113, 122, 180, 208, 341]
def isMapT (t : TypeId) : Bool := mapTs.contains t
def mapK (P : Program) (t : TypeId) : Option TypeId := match P.underlying t with | some (.map k _) => some k | _ => none
def mapE (P : Program) (t : TypeId) : Option TypeId := match P.underlying t with | some (.map _ e) => some e | _ => none
def flatT (P : Program) (t : TypeId) : Bool := match P.underlying t with | some (.int _) | some .string | some .bool => true | _ => false
def keyOk (P : Program) (kt : TypeId) (k : AV) : Bool := match P.underlying kt, k with
 | some (.struct fs), .agg cs => fs.all fun f => flatT P f.type && (P.info? f.type).isSome && decide (f.offset < cs.length)
 | _, _ => flatT P kt
def keyEq : AV → AV → Option Bool
 | .c (.str a), .c (.str b) => some (decide (a.data.toList = b.data.toList))
 | .c (.int q a), .c (.int q' b) => if q = q' then some (decide (a = b)) else none
 | _, _ => none
def keyT0 (P : Program) (kt : TypeId) : AV → Bool
 | .c (.str _) => (match P.underlying kt with | some .string => true | _ => false)
 | .c (.int _ _) => (match P.underlying kt with | some (.int _) => true | _ => false)
 | _ => false
def findA0 (k : AV) : List (AV × AV) → Option (Option Nat)
 | [] => some none
 | p :: l => match keyEq k p.1 with
  | some true => some (some 0)
  | some false => (findA0 k l).map fun r => r.map (· + 1)
  | none => none
def coverL (l : List (Nat × Nat)) (n : Nat) : Bool := l.map (·.1) == List.range n
def keyEqS (P : Program) (kt : TypeId) (k x : AV) : Option Bool := match k, x with
 | .agg xs, .agg ys => (match fieldsK P kt with | some l => if (coverL l xs.length && coverL l ys.length) = true then eqF l xs ys else none | none => none)
 | k, x => keyEq k x
theorem keyEqS_c (P : Program) (kt : TypeId) (a : AC) (x : AV) : keyEqS P kt (.c a) x = keyEq (.c a) x := by cases x <;> rfl
theorem keyEqS_agg (P : Program) (kt : TypeId) (xs ys : List AC) : keyEqS P kt (.agg xs) (.agg ys) = (match fieldsK P kt with | some l => if (coverL l xs.length && coverL l ys.length) = true then eqF l xs ys else none | none => none) := rfl
def keyT (P : Program) (kt : TypeId) (k : AV) : Bool := match k with
 | .agg _ => (fieldsK P kt).isSome
 | k => keyT0 P kt k
def findA (P : Program) (kt : TypeId) (k : AV) : List (AV × AV) → Option (Option Nat)
 | [] => some none
 | p :: l => match keyEqS P kt k p.1 with
  | some true => some (some 0)
  | some false => (findA P kt k l).map fun r => r.map (· + 1)
  | none => none
def mapPut (P : Program) (kt : TypeId) (k v : AV) (es : List (AV × AV)) : Option (List (AV × AV)) := match es with
 | [] => some [(k, v)]
 | es => if keyT P kt k = true then (match findA P kt k es with
  | some (some j) => some (es.set j (k, v))
  | some none => some (es ++ [(k, v)])
  | none => none) else none
def bornsOf (bs : List Nat) (vt n : Nat) : List Nat := if n = bs.length then bs else bs ++ [vt - 1]
def clockOf (bs : List Nat) (vt n : Nat) : Nat := if n = bs.length then vt else vt + 1
def aPutM (bs : List Nat) (vt : Nat) (i : Nat) (es : Option (List (AV × AV))) (H : Hp) (K : AV → Hp → Prop) : Prop := match es with
 | some es => vt ≠ 0 ∧ K .any (H.set i (.map (bornsOf bs vt es.length) (clockOf bs vt es.length) es))
 | none => False
def aMapUp2 (P : Program) (ob : Option AObj) (i : Nat) (kt : TypeId) (k v : AV) (H : Hp) (K : AV → Hp → Prop) : Prop := match ob with
 | some (.map a b es) => keyOk P kt k = true ∧ aPutM a b i (mapPut P kt k v es) H K
 | _ => False
def aMapUp (P : Program) (kt : Option TypeId) (m k v : AV) (H : Hp) (K : AV → Hp → Prop) : Prop := match m, kt with
 | .c (.map (some i)), some kt => aMapUp2 P H[i]? i kt k v H K
 | _, _ => False
def zeroA (P : Program) (t : TypeId) : Option AV := match (P.info? t).bind (·.zero) with
 | some (.agg _) => (zeroT P t).map .agg
 | some v => (ofVal v).map .c
 | none => none
def mapGet (P : Program) (kt : TypeId) (k : AV) (z : Option AV) (es : List (AV × AV)) : Option (AV × Bool) := match es with
 | [] => z.map fun z => (z, false)
 | es => if keyT P kt k = true then (match findA P kt k es with
  | some (some j) => (es[j]?).map fun p => (p.2, true)
  | some none => z.map fun z => (z, false)
  | none => none) else none
def aGetM (r : Option (AV × Bool)) (ok : Bool) (H : Hp) (K : AV → Hp → Prop) : Prop := match r with
 | some (v, b) => noTup v = true ∧ K (bif ok then .tup [v, .c (.bool b)] else v) H
 | none => False
def aLook2 (P : Program) (ob : Option AObj) (kt : TypeId) (z : Option AV) (k : AV) (ok : Bool) (H : Hp) (K : AV → Hp → Prop) : Prop := match ob with
 | some (.map _ vt es) => (vt ≠ 0 ∧ keyOk P kt k = true) ∧ aGetM (mapGet P kt k z es) ok H K
 | _ => False
def aLook (P : Program) (kt : Option TypeId) (z : Option AV) (m k : AV) (ok : Bool) (H : Hp) (K : AV → Hp → Prop) : Prop := match m, kt with
 | .c (.map (some i)), some kt => aLook2 P H[i]? kt z k ok H K
 | .c (.map none), some kt => keyOk P kt k = true ∧ aGetM (z.map fun z => (z, false)) ok H K
 | _, _ => False
def aNewM (r : Bool) (H : Hp) (K : AV → Hp → Prop) : Prop := match r with
 | false => K (.c (.map (some H.length))) (H ++ [.map [] 1 []])
 | true => False
def aLenM (ob : Option AObj) (H : Hp) (K : AV → Hp → Prop) : Prop := match ob with
 | some (.map _ vt es) => vt ≠ 0 ∧ K (.c (.int .i64 es.length)) H
 | _ => False
def aRange2 (ob : Option AObj) (i : Nat) (H : Hp) (K : AV → Hp → Prop) : Prop := match ob with
 | some (.map _ vt _) => vt ≠ 0 ∧ K (.c (.ptr (some (H.length, 0, 0)))) (H ++ [.map [vt - 1, vt - 1] 0 [(.c (.map (some i)), .any)]])
 | _ => False
def aRange (mt : Bool) (m : AV) (H : Hp) (K : AV → Hp → Prop) : Prop := match m with
 | .c (.map (some i)) => mt = true ∧ aRange2 H[i]? i H K
 | _ => False
def aNext4 (bs : List Nat) (vt : Nat) (es : List (AV × AV)) (r i since last : Nat) (seen : List Nat) (H : Hp) (K : AV → Hp → Prop) : Prop :=
 (since ≤ last ∧ ∀ b ∈ bs, b < since) ∧ ((∀ b ∈ bs, b ∈ seen) → K (.tup [.c (.bool false)]) H) ∧
 ∀ (j b : Nat) (k v : AV), bs[j]? = some b → es[j]? = some (k, v) → b ∉ seen → (noTup k = true ∧ noTup v = true) ∧ K (.tup [.c (.bool true), k, v]) (H.set r (.map (since :: (vt - 1) :: (seen ++ [b])) 0 [(.c (.map (some i)), .any)]))
def aNext3 (ob : Option AObj) (r i since last : Nat) (seen : List Nat) (H : Hp) (K : AV → Hp → Prop) : Prop := match ob with
 | some (.map bs vt es) => vt ≠ 0 ∧ aNext4 bs vt es r i since last seen H K
 | _ => False
def aNext2 (ob : Option AObj) (r : Nat) (H : Hp) (K : AV → Hp → Prop) : Prop := match ob with
 | some (.map (since :: last :: seen) 0 [(.c (.map (some i)), _)]) => aNext3 H[i]? r i since last seen H K
 | _ => False
def aNext (str : Bool) (v : AV) (H : Hp) (K : AV → Hp → Prop) : Prop := match v, str with
 | .c (.ptr (some (r, 0, 0))), false => aNext2 H[r]? r H K
 | _, _ => False
def aEnt4 (bs : List Nat) (vt : Nat) (es : List (AV × AV)) (last : Nat) (seen : List Nat) (H : Hp) (K : AV → Hp → Prop) : Prop :=
 ∃ (j b : Nat) (s : List Nat) (k v : AV), (vt = last + 1 ∧ seen = s ++ [b] ∧ bs[j]? = some b ∧ es[j]? = some (k, v) ∧ bs.Nodup ∧ noTup k = true ∧ noTup v = true) ∧ K (.tup [k, v]) H
def aEnt3 (ob : Option AObj) (last : Nat) (seen : List Nat) (H : Hp) (K : AV → Hp → Prop) : Prop := match ob with
 | some (.map bs vt es) => aEnt4 bs vt es last seen H K
 | _ => False
def aEnt2 (ob : Option AObj) (H : Hp) (K : AV → Hp → Prop) : Prop := match ob with
 | some (.map (_ :: last :: seen) 0 [(.c (.map (some i)), _)]) => aEnt3 H[i]? last seen H K
 | _ => False
def aEnt (v : AV) (H : Hp) (K : AV → Hp → Prop) : Prop := match v with
 | .c (.ptr (some (r, 0, 0))) => aEnt2 H[r]? H K
 | _ => False
def aDel3 (bs : List Nat) (vt i : Nat) (es : List (AV × AV)) (r : Option (Option Nat)) (H : Hp) (K : AV → Hp → Prop) : Prop := match r with
 | some (some j) => K (.tup []) (H.set i (.map (bs.eraseIdx j) vt (es.eraseIdx j)))
 | some none => K (.tup []) (H.set i (.map bs vt es))
 | none => False
def aDel (P : Program) (kt : Option TypeId) (ob : Option AObj) (i : Nat) (k : AV) (H : Hp) (K : AV → Hp → Prop) : Prop := match kt, ob with
 | some kt, some (.map bs vt es) => (vt ≠ 0 ∧ noTup k = true ∧ keyOk P kt k = true ∧ keyT P kt k = true) ∧ aDel3 bs vt i es (findA P kt k es) H K
 | _, _ => False
def srcL (P : Program) (H : Hp) (e : Nat) (x : AC) : Option (List (List AC)) := match x with
 | .lst sz es => if sz = szT P e then some es else none
 | .sl (some p) m => (match H[p.1]? with
  | some (.row _ sz els _) => if sz = szT P e ∧ p.2 + m ≤ els.length then some ((els.drop p.2).take m) else none
  | _ => none)
 | _ => none
def aCp2 (ob : Option AObj) (i k n s : Nat) (new : Option (List (List AC))) (H : Hp) (K : AV → Hp → Prop) : Prop := match ob, new with
 | some (.row ty sz els true), some new => (s = sz ∧ 0 < sz ∧ 0 < n ∧ 0 < new.length ∧ k + n ≤ els.length) ∧ K (.c (.int .i64 (min new.length n : Nat))) (H.set i (.row ty sz (els.take k ++ new.take n ++ els.drop (k + min new.length n)) true))
 | _, _ => False
def aCp (P : Program) (e : Option Nat) (i k n : Nat) (x : AC) (H : Hp) (K : AV → Hp → Prop) : Prop := match e with
 | some e => (P.info? e).isSome = true ∧ aCp2 H[i]? i k n (szT P e) (srcL P H e x) H K
 | none => False
def aMkS (n m : AV) (e : Option Nat) (sz bs : Nat) (z : Option (List AC)) (H : Hp) (K : AV → Hp → Prop) : Prop := match n, m, e, z with
 | .c (.int _ q), .c (.int _ q'), some e, some z => (q = q' ∧ z.length = sz ∧ 0 < sz ∧ 0 ≤ q ∧ q * bs ≤ 140737488355328 ∧ q ≤ 9223372036854775807) ∧ K (.c (.sl (some (H.length, 0)) q.toNat)) (H ++ [.row e sz (List.replicate q.toNat z) true])
 | _, _, _, _ => False
def aClr2 (ob : Option AObj) (i k n : Nat) (s : Nat) (z : Option Nat) (H : Hp) (K : AV → Hp → Prop) : Prop := match ob with
 | some (.row ty sz els true) => (s = sz ∧ z = some sz ∧ k + n = els.length) ∧ K (.tup []) (H.set i (.row ty sz (els.take k) true))
 | _ => False
def aClr (r : Option (Nat × Nat)) (n : Nat) (e : Option Nat) (s : Nat) (z : Option Nat) (H : Hp) (K : AV → Hp → Prop) : Prop := match n, e with
 | 0, some _ => K (.tup []) H
 | n + 1, some _ => (match r with | some p => aClr2 H[p.1]? p.1 p.2 (n + 1) s z H K | none => False)
 | _, none => False
def aApE (r : Option (Nat × Nat)) (n m e sz : Nat) (els new : List (List AC)) (H : Hp) (K : AV → Hp → Prop) : Prop :=
 K (.c (.sl (some (H.length, 0)) (n + m))) (killA r H ++ [.row e sz (els.take n ++ new) true]) ∨
 ∃ p, r = some p ∧ n + m ≤ els.length ∧ K (.c (.sl (some p) (n + m))) (H.set p.1 (.row e sz (els.take n ++ new ++ els.drop (n + m)) true))
def aBuiltin (P : Program) (b : Builtin) (ts : Array TypeId) (as : List AV) (H : Hp) (K : AV → Hp → Prop) : Prop :=
 match b, ts.toList, as with
 | .len, [t], [.c (.sl _ n)] => (elemT P t).isSome = true ∧ K (.c (.int .i64 n)) H
 | .len, [t], [.c (.lst _ els)] => (elemT P t).isSome = true ∧ K (.c (.int .i64 els.length)) H
 | .len, [t], [.c (.str s)] => P.underlying t = some .string ∧ K (.c (.int .i64 s.size)) H
 | .min, _, [.c (.int k x), .c (.int _ y)] => K (.c (.int k (if y < x then y else x))) H
 | .max, _, [.c (.int k x), .c (.int _ y)] => K (.c (.int k (if x < y then y else x))) H
 | .append, [t, t'], [.c (.sl r n), .c (.sl r2 m)] => t = t' ∧ (match elemT P t with
   | some e => (zeroT P e).map (·.length) = some (szT P e) ∧ (m = 0 → K (.c (.sl r n)) H) ∧ (0 < m → ∃ els new : List (List AC), ownA P H e r n els ∧ srcA P H e r2 m new ∧
     0 < szT P e ∧ (n + m) * P.bytesOf e ≤ 140737488355328 ∧ n + m ≤ 9223372036854775807 ∧
     aApE r n m e (szT P e) els new H K)
   | none => False)
 | .append, [t, t'], [.c (.sl r n), .c (.lst sz new)] => t = t' ∧ (match elemT P t with
   | some e => (zeroT P e).map (·.length) = some (szT P e) ∧ (new.length = 0 → K (.c (.sl r n)) H) ∧ (0 < new.length → ∃ els : List (List AC), ownA P H e r n els ∧ sz = szT P e ∧
     0 < szT P e ∧ (n + new.length) * P.bytesOf e ≤ 140737488355328 ∧ n + new.length ≤ 9223372036854775807 ∧
     K (.c (.sl (some (H.length, 0)) (n + new.length))) (killA r H ++ [.row e (szT P e) (els.take n ++ new) true]))
   | none => False)
 | .append, [t, t'], [.c (.sl r n), .c (.str s)] => P.underlying t' = some .string ∧ (match elemT P t with
   | some e => (P.info? e).bind (·.zero) = some (.int .u8 0) ∧ szT P e = 1 ∧ P.bytesOf e = 1 ∧ (s.size = 0 → K (.c (.sl r n)) H) ∧ (0 < s.size → ∃ els : List (List AC), ownA P H e r n els ∧ n + s.size ≤ 140737488355328 ∧
     K (.c (.sl (some (H.length, 0)) (n + s.size))) (killA r H ++ [.row e (szT P e) (els.take n ++ s.data.toList.map fun b => [AC.int .u8 b.toNat]) true]))
   | none => False)
 | .clear, [t], [.c (.sl r n)] => aClr r n (elemT P t) ((elemT P t).elim 0 (szT P)) ((elemT P t).bind fun e => (zeroT P e).map (·.length)) H K
 | .cap, [t], [.c (.sl r _)] => r = none ∧ (elemT P t).isSome = true ∧ K (.c (.int .i64 0)) H
 | .append, [t, t'], [.c (.sl r n), .c (.int _ m)] => r = none ∧ n = 0 ∧ intT P t' = true ∧ (match elemT P t with
   | some e => (match zeroT P e with
    | some z => z.length = szT P e ∧ 0 < szT P e ∧ 0 < m ∧ m * P.bytesOf e ≤ 140737488355328 ∧ m ≤ 9223372036854775807 ∧ K (.c (.sl (some (H.length, 0)) m.toNat)) (H ++ [.row e (szT P e) (List.replicate m.toNat z) true])
    | none => False)
   | none => False)
 | .len, [t], [.c (.map (some i))] => (isMapT t = true ∧ (mapK P t).isSome = true) ∧ aLenM H[i]? H K
 | .copy, [t, _], [.c (.sl (some (i, k)) n), .c x] => aCp P (elemT P t) i k n x H K
 | .delete, [t, _], [.c (.map (some i)), k] => aDel P (mapK P t) H[i]? i k H K
 | _, _, _ => False
def partsOf (ps : List (Nat × Operand)) (ev : Operand → AV) : List (Nat × AV) := ps.map fun p => (p.1, ev p.2)
def buildAt (P : Program) (t : TypeId) : List AC → List (Nat × AV) → Option (List AC)
 | cs, [] => some cs
 | cs, (i, v) :: rest =>
  match fieldT P t i, v.cells with
  | some (o, n), some xs => if xs.length = n ∧ o + n ≤ cs.length then buildAt P t (setC cs o xs) rest else none
  | _, _ => none
def litEls (sz : Nat) : Nat → List (Nat × AV) → Option (List (List AC))
 | _, [] => some []
 | n, (i, v) :: rest =>
  match v.cells with
  | some xs => if i = n ∧ xs.length = sz then (litEls sz (n + 1) rest).map (xs :: ·) else none
  | none => none
def fieldsOk (P : Program) (t : TypeId) : Bool := match P.underlying t with | some (.struct fs) => fs.all fun f => (P.info? f.type).isSome | _ => false
def loOf (x : Option AV) : Option Int := match x with | none => some 0 | some (.c (.int _ q)) => some q | _ => none
def hiOf (x : Option AV) (n : Nat) : Option Int := match x with | none => some n | some (.c (.int _ q)) => some q | _ => none
def rowOk (P : Program) (H : Hp) (e : Nat) (r : Option (Nat × Nat)) : Prop := match r with
 | none => True
 | some p => match H[p.1]? with
  | some (.row _ sz _ _) => sz = szT P e
  | _ => False
def rowN (H : Hp) (r : Option (Nat × Nat)) : Nat := match r with
 | none => 0
 | some p => match H[p.1]? with
  | some (.row _ _ els _) => els.length - p.2
  | _ => 0
theorem rowN_of {H : Hp} {i k ty sz : Nat} {els : List (List AC)} {own : Bool} (h : H[i]? = some (.row ty sz els own)) : rowN H (some (i, k)) = els.length - k := by
 simp [rowN, h]
def aIf (c : Prop) (v : AV) (H : Hp) (K : AV → Hp → Prop) : Prop := c ∧ K v H
def aOf (x : Option AC) (H : Hp) (K : AV → Hp → Prop) : Prop := match x with | some u => K (.c u) H | none => False
def aPick (c u v : AV) (H : Hp) (K : AV → Hp → Prop) : Prop := match c with
 | .c (.bool t) => (match u, v with
  | .c (.bool p), .c (.bool q) => K (.c (.bool (bif t then p else q))) H
  | u, v => K (bif t then u else v) H)
 | _ => False
def aUn (op : UnOp) (v : AV) (H : Hp) (K : AV → Hp → Prop) : Prop := match op, v with
 | .not, .c (.bool b) => K (.c (.bool (!b))) H
 | .neg, .c (.int k n) => K (.c (.int k (k.wrap (0 - n)))) H
 | _, _ => False
def aNew (t : TypeId) (cs : Option (List AC)) (H : Hp) (K : AV → Hp → Prop) : Prop := match cs with
 | some cs => K (.c (.ptr (some (H.length, 0, 0)))) (H ++ [.row t cs.length [cs] true])
 | none => False
def aBuild (cs : Option (List AC)) (ok : Bool) (H : Hp) (K : AV → Hp → Prop) : Prop := match cs with
 | some cs => ok = true ∧ K (.agg cs) H
 | none => False
def aLit (e : Option Nat) (sz : Nat) (z : Bool) (els : Option (List (List AC))) (n m : Nat) (H : Hp) (K : AV → Hp → Prop) : Prop := match e, els with
 | some e, some els => n = m ∧ 0 < sz ∧ n * sz ≤ 16777216 ∧ z = true ∧ K (.c (.sl (some (H.length, 0)) n)) (H ++ [.row e sz els true])
 | _, _ => False
def elAt (H : Hp) (i k : Nat) : Option (List AC) := match H[i]? with
 | some (.row _ _ els _) => els[k]?
 | _ => none
def aLd (e : Option (List AC)) (j : Nat) (ag : Bool) (sz : Nat) (i1 i2 : Bool) (H : Hp) (K : AV → Hp → Prop) : Prop := match e, ag with
 | some e, true => aIf (i1 = true ∧ j + sz ≤ e.length) (.agg ((e.drop j).take sz)) H K
 | some e, false => i2 = true ∧ aOf e[j]? H K
 | none, _ => False
def aLoad (v : AV) (ag : Bool) (sz : Nat) (i1 i2 : Bool) (H : Hp) (K : AV → Hp → Prop) : Prop := match v with
 | .c (.ptr (some (i, k, j))) => aLd (elAt H i k) j ag sz i1 i2 H K
 | .c (.fp cs) => aLd (some cs) 0 ag sz i1 i2 H K
 | _ => False
def aSt3 (e : Option (List AC)) (ty sz : Nat) (els : List (List AC)) (i k j : Nat) (cs : List AC) (i1 : Bool) (szt : Nat) (H : Hp) (K : AV → Hp → Prop) : Prop := match e with
 | some e => aIf (i1 = true ∧ szt = cs.length ∧ j + cs.length ≤ sz) .any (H.set i (.row ty sz (els.set k (setC e j cs)) true)) K
 | none => False
def aSt2 (ob : Option AObj) (i k j : Nat) (cs : List AC) (i1 : Bool) (szt : Nat) (H : Hp) (K : AV → Hp → Prop) : Prop := match ob with
 | some (.row ty sz els true) => aSt3 els[k]? ty sz els i k j cs i1 szt H K
 | _ => False
def aSt (v : AV) (cs : Option (List AC)) (i1 : Bool) (szt : Nat) (H : Hp) (K : AV → Hp → Prop) : Prop := match v, cs with
 | .c (.ptr (some (i, k, j))), some cs => aSt2 H[i]? i k j cs i1 szt H K
 | _, _ => False
def aNil (v : AV) (H : Hp) (K : AV → Hp → Prop) : Prop := match v with
 | .c (.ptr (some p)) => K (.c (.ptr (some p))) H
 | .c (.fp cs) => K (.c (.fp cs)) H
 | _ => False
def aFld (v : AV) (f : Option (Nat × Nat)) (H : Hp) (K : AV → Hp → Prop) : Prop := match v, f with
 | .c (.ptr (some (i, k, j))), some (o, n) => n ≠ 0 ∧ K (.c (.ptr (some (i, k, j + o)))) H
 | .c (.fp cs), some (o, n) => n ≠ 0 ∧ K (.c (.fp (cs.drop o))) H
 | _, _ => False
def aIx2 (ob : Option AObj) (i k n : Nat) (q : Int) (s : Nat) (i1 : Bool) (H : Hp) (K : AV → Hp → Prop) : Prop := match ob with
 | some (.row _ sz _ _) => aIf (s = sz ∧ i1 = true ∧ 0 ≤ q ∧ q < n) (.c (.ptr (some (i, k + q.toNat, 0)))) H K
 | _ => False
def aIxL (e : Option (List AC)) (n : Nat) (q : Int) (s sz : Nat) (i1 : Bool) (H : Hp) (K : AV → Hp → Prop) : Prop := match e with
 | some e => aIf (s = sz ∧ i1 = true ∧ 0 ≤ q ∧ q < n) (.c (.fp e)) H K
 | none => False
def aIx (v q : AV) (sz : Option Nat) (i1 : Bool) (H : Hp) (K : AV → Hp → Prop) : Prop := match v, q, sz with
 | .c (.sl (some (i, k)) n), .c (.int _ q), some s => aIx2 H[i]? i k n q s i1 H K
 | .c (.lst sz els), .c (.int _ q), some s => aIxL els[q.toNat]? els.length q s sz i1 H K
 | _, _, _ => False
def aStr (v q : AV) (ok : Bool) (H : Hp) (K : AV → Hp → Prop) : Prop := match v, q with
 | .c (.str s), .c (.int _ q) => aIf (ok = true ∧ 0 ≤ q ∧ q < s.size) (.c (.int .u8 (s.data.toList.getD q.toNat 0).toNat)) H K
 | _, _ => False
def strT (P : Program) (t : TypeId) : Bool := match P.underlying t with | some .string => true | _ => false
def mxV (hi mx : Option AV) (v : AV) : AV := match mx, hi, v with
 | none, _, v => v
 | some (.c (.int _ m)), some (.c (.int _ h)), .c (.lst sz els) => if m = h then .c (.lst sz els) else .any
 | some (.c (.int _ m)), some (.c (.int _ _)), .c (.sl r n) => .tup [.c (.sl r n), .c (.int .i64 m)]
 | _, _, _ => .any
def mxB (mx : Option AV) (v : AV) : Bool := match mx, v with
 | some _, .c (.sl _ _) => true
 | _, _ => false
def aSub (v : AV) (mx : Bool) (l : Option Int) (hi : Option AV) (e : Option Nat) (P : Program) (str : Bool) (H : Hp) (K : AV → Hp → Prop) : Prop := match v, mx, l with
 | .c (.sl r n), false, some l => (match e, hiOf hi n with
  | some e, some h => aIf ((P.info? e).isSome = true ∧ rowOk P H e r ∧ 0 ≤ l ∧ l ≤ h ∧ (h ≤ n ∨ h ≤ rowN H r)) (.c (.sl (r.map fun p => (p.1, p.2 + l.toNat)) (h.toNat - l.toNat))) H K
  | _, _ => False)
 | .c (.lst sz els), false, some l => (match e, hiOf hi els.length with
  | some e, some h => aIf ((P.info? e).isSome = true ∧ sz = szT P e ∧ 0 ≤ l ∧ l ≤ h ∧ h ≤ els.length) (.c (.lst sz ((els.drop l.toNat).take (h.toNat - l.toNat)))) H K
  | _, _ => False)
 | .tup [.c (.sl r n), .c (.int .i64 m)], true, some l => (match e, hiOf hi n with
  | some e, some h => aIf ((P.info? e).isSome = true ∧ rowOk P H e r ∧ 0 ≤ l ∧ l ≤ h ∧ h ≤ m ∧ m ≤ n) .any H K
  | _, _ => False)
 | .c (.str s), false, some l => (match hiOf hi s.size with
  | some h => aIf (str = true ∧ 0 ≤ l ∧ l ≤ h ∧ h ≤ s.size) (.c (.str (s.extract l.toNat h.toNat))) H K
  | none => False)
 | _, _, _ => False
def aExt2 (v : Option AV) (H : Hp) (K : AV → Hp → Prop) : Prop := match v with | some v => K v H | none => False
def aExt (v : AV) (ix : Nat) (H : Hp) (K : AV → Hp → Prop) : Prop := match v with
 | .tup vs => aExt2 vs[ix]? H K
 | _ => False
def externs (P : Program) (f : FuncId) (e : Array Value → Sem Value) : Prop := ∃ fn, P.funcs[f]? = some fn ∧ (fn.name == "runtime.NumGoroutine") = false ∧ fn.body.isNone = true ∧ Extern.findNext fn = none ∧ Extern.find fn = some e
def AExt (P : Program) (f : FuncId) (args : List AV) (H : Hp) (K : AV → Hp → Prop) : Prop :=
 ∃ e, externs P f e ∧ ∀ B w0 ι w vs, Sim B w0 ι H w → argsRel ι args vs → (∀ x ∈ args, x.ok1 H.length) → ∃ v w', (e vs).run P w = .ok v w' ∧ Done B w0 ι H.length K (.returned v) w'
theorem AExt.mono {P : Program} {f : FuncId} {args : List AV} {H : Hp} {K K' : AV → Hp → Prop} (h : AExt P f args H K) (hk : ∀ v H', K v H' → K' v H') : AExt P f args H K' := by
 obtain ⟨e, h1, h2⟩ := h
 refine ⟨e, h1, fun B w0 ι w vs hs hr ho => ?_⟩
 obtain ⟨v, w', h3, ι', u, av, H', g1, g2, g3, g4, g5, g6, g7⟩ := h2 B w0 ι w vs hs hr ho
 exact ⟨v, w', h3, ι', u, av, H', g1, g2, g3, g4, g5, g6, hk _ _ g7⟩
def aCallB (P : Program) (b : Bool) (f : FuncId) (as : List AV) (H : Hp) (K : AV → Hp → Prop) : Prop := match b with
 | true => ACalls P f as H K
 | false => AExt P f as H K
def aCall (P : Program) (v : AV) (as : List AV) (H : Hp) (K : AV → Hp → Prop) : Prop := match v with
 | .c (.fn f fs cs) => as.all noTup = true ∧ aCallB P (entersB P f) f (ptrs fs ++ as ++ ptrs cs) H K
 | _ => False
def ptrsOf : List AV → Option (List (Nat × Nat × Nat))
 | [] => some []
 | .c (.ptr (some p)) :: l => (ptrsOf l).map (p :: ·)
 | _ => none
def aMk (fn : Fn) (fs cs : Option (List (Nat × Nat × Nat))) (H : Hp) (K : AV → Hp → Prop) : Prop := match fn, fs, cs with
 | .func f, some fs, some cs => K (.c (.fn f fs cs)) H
 | _, _, _ => False
def aCv2 (k : Option IntKind) (n : Int) (s1 str : Bool) (H : Hp) (K : AV → Hp → Prop) : Prop := match k with
 | some k => aIf (s1 = true) (.c (.int k (k.wrap n))) H K
 | none => aIf (s1 = true ∧ str = true ∧ 0 ≤ n ∧ n < 128) (.c (.str ⟨#[UInt8.ofNat n.toNat]⟩)) H K
def bytesL (s : ByteArray) : List (List AC) := s.data.toList.map fun b => [.int .u8 b.toNat]
def unbyte : List (List AC) → Option (List UInt8)
 | [] => some []
 | [.int .u8 n] :: l => if 0 ≤ n ∧ n < 256 then (unbyte l).map (UInt8.ofNat n.toNat :: ·) else none
 | _ :: _ => none
def bytesT (P : Program) (t : TypeId) : Bool := match P.underlying t with | some (.slice e) => intK P e == some .u8 | _ => false
def aCvS (s : ByteArray) (s1 str bt : Bool) (H : Hp) (K : AV → Hp → Prop) : Prop := match bt with
 | true => aIf (s1 = true) (.c (.lst 1 (bytesL s))) H K
 | false => aIf (s1 = true ∧ str = true) (.c (.str s)) H K
def aCvB (b : Option (List UInt8)) (sb str : Bool) (H : Hp) (K : AV → Hp → Prop) : Prop := match b with
 | some l => aIf (sb = true ∧ str = true) (.c (.str ⟨l.toArray⟩)) H K
 | none => False
def aCv (v : AV) (s1 : Bool) (k : Option IntKind) (str bt sb : Bool) (H : Hp) (K : AV → Hp → Prop) : Prop := match v with
 | .c (.int _ n) => aCv2 k n s1 str H K
 | .c (.str s) => aCvS s s1 str bt H K
 | .c (.lst _ els) => aCvB (unbyte els) sb str H K
 | _ => False
def conT (P : Program) (t : TypeId) : Bool := match P.underlying t with | some (.interface _) | none => false | _ => true
def aIfc (c : Bool) (v : AV) (H : Hp) (K : AV → Hp → Prop) : Prop := match v with
 | .tup _ => False
 | _ => aIf (c = true) (.c .ifc) H K
def aFd (v : AV) (f : Option (Nat × Nat × Bool)) (H : Hp) (K : AV → Hp → Prop) : Prop := match v, f with
 | .agg cs, some (o, n, true) => aIf (o + n ≤ cs.length) (.agg ((cs.drop o).take n)) H K
 | .agg cs, some (o, _, false) => aOf cs[o]? H K
 | _, _ => False
def aOp (P : Program) (op : Op) (ev : Operand → AV) (H : Hp) (K : AV → Hp → Prop) : Prop :=
 match op with
 | .move x | .assign x => K (ev x) H
 | .pick c x y => aPick (ev c) (ev x) (ev y) H K
 | .binOp op t x y _ => aBinO P t op (ev x) (ev y) (isNilS y) (isNilI y) (fun v => K v H)
 | .unOp op _ x => aUn op (ev x) H K
 | .alloc t => aNew t (zeroT P t) H K
 | .box t x => aNew t (ev x).cells H K
 | .build t ps => aBuild ((zeroT P t).bind fun z => buildAt P t z (partsOf ps.toList ev)) (fieldsOk P t) H K
 | .buildSlice t n ps => aLit (elemT P t) ((elemT P t).elim 0 (szT P)) ((elemT P t).elim false fun e => (zeroT P e).isSome) ((elemT P t).bind fun e => litEls (szT P e) 0 (partsOf ps.toList ev)) n ps.size H K
 | .load t x => aLoad (ev x) (aggT P t) (szT P t) (P.info? t).isSome (P.underlying t).isSome H K
 | .store t x y => aSt (ev x) (ev y).cells (P.info? t).isSome (szT P t) H K
 | .nilCheck x => aNil (ev x) H K
 | .fieldAddr s x f => aFld (ev x) (fieldT P s f) H K
 | .indexAddr t x ix => aIx (ev x) (ev ix) ((elemT P t).map (szT P)) ((elemT P t).elim false fun e => (P.info? e).isSome) H K
 | .index t x ix => aStr (ev x) (ev ix) (strT P t) H K
 | .slice t x lo hi mx => aSub (mxV (hi.map ev) (mx.map ev) (ev x)) (mxB (mx.map ev) (ev x)) (loOf (lo.map ev)) (hi.map ev) (elemT P t) P (strT P t) H K
 | .makeFunc f fs cs => aMk f (ptrsOf (fs.toList.map ev)) (ptrsOf (cs.toList.map ev)) H K
 | .convert s d x => aCv (ev x) (P.underlying s).isSome (intK P d) (strT P d) (bytesT P d) (bytesT P s) H K
 | .makeInterface t x => aIfc (conT P t) (ev x) H K
 | .makeMap _ r => aNewM r.isSome H K
 | .range t x => aRange (mapK P t).isSome (ev x) H K
 | .next x s => aNext s (ev x) H K
 | .entry x => aEnt (ev x) H K
 | .makeSlice t x y => aMkS (ev x) (ev y) (elemT P t) ((elemT P t).elim 0 (szT P)) ((elemT P t).elim 0 P.bytesOf) ((elemT P t).bind (zeroT P)) H K
 | .mapUpdate t m k x => aMapUp P (mapK P t) (ev m) (ev k) (ev x) H K
 | .insert t m k x => aMapUp P (mapK P t) (ev m) (ev k) (ev x) H K
 | .lookup t x ix ok => aLook P (mapK P t) ((mapE P t).bind (zeroA P)) (ev x) (ev ix) ok H K
 | .field s x f => aFd (ev x) (fieldK P s f) H K
 | .extract x ix => aExt (ev x) ix H K
 | .call c => match c.callee with
  | .builtin b => aBuiltin P b c.argTypes (c.args.toList.map ev) H K
  | .value f => aCall P (ev f) (c.args.toList.map ev) H K
  | _ => False
 | _ => False
end Go.Proofs.YtagoolooikpabaaGreatDoor
namespace Go.Proofs.YtagoolooikpabaaGreatDoor
open Go Go.RowKit
section
variable {P : Program} {B : Nat → Prop} {rr : Option Nat} {dd : List Deferred} {w0 w w' : World} {ι ι' : En} {H : Hp} {F : Fr} {a : Act} {N n m : Nat} {Q : Exit → Act → World → Prop} {next : Act → World → Prop} {o : Oper} {K : AV → Hp → Prop}
def RunK (P : Program) (B : Nat → Prop) (w0 : World) (ι : En) (n : Nat) (K : AV → Hp → Prop) (s : Sem Value) (w : World) : Prop :=
 ∃ v w' ι' av H', s.run P w = .ok v w' ∧ Agree n ι ι' ∧ n ≤ H'.length ∧ Sim B w0 ι' H' w' ∧ AV.rel ι' av v ∧ av.ok H'.length ∧ K av H'
theorem runK_wp {s : Sem Value} (he : execOp a.eval o = (do pure (.value (← s)))) (h : RunK P B w0 ι n K s w) : o.wp P a w (StepK B w0 ι n a o.dst K) Q := by
 obtain ⟨v, w', ι', av, H', h1, h2, h3, h4, h5, h6, h7⟩ := h
 refine wp_val (v := v) (w' := w') ?_ ⟨ι', v, av, H', rfl, h2, h3, h4, h5, h6, h7⟩
 rw [he]; simp [h1]
theorem runK_same {s : Sem Value} {v : Value} {av : AV} (hs : Sim B w0 ι H w) (h : s.run P w = .ok v w) (hr : AV.rel ι av v) (ho : av.ok H.length) (hk : K av H) : RunK P B w0 ι H.length K s w :=
 ⟨v, w, ι, av, H, h, Agree.refl _ _, Nat.le_refl _, hs, hr, ho, hk⟩
theorem zeroT_rel {t : TypeId} {cs : List AC} (h : zeroT P t = some cs) (ι : En) : ∃ z, (P.info? t).bind (·.zero) = some z ∧ relL ι cs z.cells.toList ∧ ∀ n, ∀ x ∈ cs, x.ok n := by
 unfold zeroT at h
 split at h
 ·rename_i z hz
  refine ⟨z, hz, ?_⟩
  generalize z.cells.toList = l at h
  clear hz
  induction l generalizing cs with
  | nil => simp at h; subst h; exact ⟨trivial, by simp⟩
  | cons v l ih =>
   rw [List.mapM_cons] at h
   simp only [bind, Option.bind] at h
   cases hv : ofVal v with
   | none => rw [hv] at h; cases h
   | some x =>
    rw [hv] at h
    cases hl : l.mapM ofVal with
    | none => simp [hl] at h
    | some xs =>
     simp [hl] at h
     subst h
     obtain ⟨h1, h2⟩ := ih hl
     exact ⟨⟨ofVal_rel hv, h1⟩, fun n y hy => by
      rcases List.mem_cons.1 hy with rfl | hy
      ·exact ofVal_ok hv n
      ·exact h2 n y hy⟩
 ·cases h
theorem run_zeroValue {t : TypeId} {z : Value} (h : (P.info? t).bind (·.zero) = some z) (w : World) : (zeroValue t).run P w = .ok z w := by
 cases hi : P.info? t with
 | none => rw [hi] at h; cases h
 | some i =>
  rw [hi] at h
  simp only [Option.bind_some] at h
  simp [zeroValue, typeInfo, hi, h]
theorem new_var {t : TypeId} {cs : List AC} {vs : List Value} (hs : Sim B w0 ι H w) (hr : relL ι cs vs) (ho : ∀ x ∈ cs, x.ok H.length) :
  Sim B w0 (upd ι H.length ⟨w.heap.size, 0, cs.length, 1⟩) (H ++ [.row t cs.length [cs] true]) (w.alloc (.cells vs.toArray t)) := by
 refine hs.new _ _ _ rfl (fun e he => by simp at he; subst he; exact ⟨rfl, ho⟩) ⟨rfl, by simp, vs.toArray, (0, 0), heap_alloc_new w _, fun k e hk j x hj => ?_, fun _ => ⟨rfl, rfl, by simp [relL_len hr], by simp [maxLen]⟩⟩
 have hk0 : k = 0 := by have := getElem?_lt hk; simp at this; omega
 subst hk0
 simp at hk; subst hk
 obtain ⟨u, h1, h2⟩ := relL_get hr j x hj
 exact ⟨u, by simpa using h1, AC.rel_agree (upd_agree ι H.length _) (ho x (List.mem_of_getElem? hj)) h2⟩
theorem cells_rel {x : AV} {cs : List AC} {v : Value} (hc : x.cells = some cs) (hr : x.rel ι v) : relL ι cs v.cells.toList := by
 cases x with
 | c y =>
  simp only [AV.cells, Option.some.injEq] at hc
  subst hc
  have hr' : y.rel ι v := hr
  have h1 := AC.rel_one hr'
  have : v.cells = #[v] := by cases v <;> first | rfl | (simp [Value.oneCell'] at h1)
  rw [this]
  exact ⟨hr', trivial⟩
 | agg ys =>
  simp only [AV.cells, Option.some.injEq] at hc
  subst hc
  obtain ⟨vs, rfl, h⟩ := hr
  exact h
 | any => cases hc
 | tup ts => cases hc
theorem cells_ok {x : AV} {cs : List AC} (hc : x.cells = some cs) (ho : x.ok n) : ∀ y ∈ cs, y.ok n := by
 cases x with
 | c y =>
  simp only [AV.cells, Option.some.injEq] at hc
  subst hc
  intro z hz
  simp at hz; subst hz; exact ho
 | agg ys =>
  simp only [AV.cells, Option.some.injEq] at hc
  subst hc
  exact ho
 | any => cases hc
 | tup ts => cases hc
theorem runK_box {t : TypeId} {x : AV} {cs : List AC} {v : Value} (hs : Sim B w0 ι H w) (hc : x.cells = some cs) (hr : x.rel ι v) (ho : x.ok H.length) (hk : K (.c (.ptr (some (H.length, 0, 0)))) (H ++ [.row t cs.length [cs] true])) :
  RunK P B w0 ι H.length K (do pure (.pointer (some (← newVar t v)))) w := by
 have h1 := cells_rel hc hr
 have hsim := new_var (t := t) hs h1 (cells_ok hc ho)
 refine ⟨.pointer (some ⟨w.heap.size, 0, none⟩), _, _, _, _, ?_, upd_agree _ _ _, by simp, hsim, ?_, ?_, hk⟩
 ·simp [newVar, newRow]
 ·show _ = ptrOf _ _
  simp [ptrOf, upd_same, Loc.at]
 ·show H.length < _
  simp
theorem runK_alloc {t : TypeId} {cs : List AC} (hs : Sim B w0 ι H w) (hc : zeroT P t = some cs) (hk : K (.c (.ptr (some (H.length, 0, 0)))) (H ++ [.row t cs.length [cs] true])) :
  RunK P B w0 ι H.length K (Instr.alloc t true (.tuple #[])) w := by
 obtain ⟨z, h1, h2, h3⟩ := zeroT_rel hc ι
 have hsim := new_var (t := t) hs h2 (h3 _)
 refine ⟨.pointer (some ⟨w.heap.size, 0, none⟩), _, _, _, _, ?_, upd_agree _ _ _, by simp, hsim, ?_, ?_, hk⟩
 ·simp [Instr.alloc, run_zeroValue h1, newVar, newRow]
 ·show _ = ptrOf _ _
  simp [ptrOf, upd_same, Loc.at]
 ·show H.length < _
  simp
theorem runK_load {t : TypeId} {i k j : Nat} {ty sz : Nat} {els : List (List AC)} {own : Bool} {e : List AC} (hs : Sim B w0 ι H w) (hi : H[i]? = some (.row ty sz els own)) (hk : els[k]? = some e)
  (h : if aggT P t then (P.info? t).isSome = true ∧ j + szT P t ≤ e.length ∧ K (.agg ((e.drop j).take (szT P t))) H else (P.underlying t).isSome = true ∧ (match e[j]? with | some u => K (.c u) H | none => False)) :
  RunK P B w0 ι H.length K (Instr.loadAt t (ptrOf ι (i, k, j))) w := by
 have hsc := hs.scope i _ hi e (List.mem_of_getElem? hk)
 by_cases ht : aggT P t = true
 ·rw [if_pos ht] at h
  obtain ⟨h1, h2, h3⟩ := h
  obtain ⟨vs, h4, h5⟩ := run_load_agg hs hi hk h2 ht h1
  refine runK_same hs (v := .agg vs.toArray) (av := .agg _) ?_ ⟨vs, rfl, h5⟩ (fun x hx => hsc.2 x (List.mem_of_mem_drop (List.mem_of_mem_take hx))) h3
  simp [Instr.loadAt, Instr.sureAddr, ptrOf, h4]
 ·rw [if_neg ht] at h
  obtain ⟨h1, h⟩ := h
  cases hj : e[j]? with
  | none => rw [hj] at h; exact h.elim
  | some x =>
   rw [hj] at h
   obtain ⟨u, h2, h3⟩ := run_load_c hs hi hk hj (by simpa using ht) h1
   refine runK_same hs (v := u) (av := .c x) ?_ h3 (hsc.2 x (List.mem_of_getElem? hj)) h
   simp [Instr.loadAt, Instr.sureAddr, ptrOf, h2]
theorem runK_fload {t : TypeId} {cs : List AC} {v : Value} (hs : Sim B w0 ι H w) (hv : AC.rel ι (.fp cs) v)
  (h : if aggT P t then (P.info? t).isSome = true ∧ szT P t ≤ cs.length ∧ K (.agg (cs.take (szT P t))) H else (P.underlying t).isSome = true ∧ (match cs[0]? with | some u => K (.c u) H | none => False)) :
  RunK P B w0 ι H.length K (Instr.loadAt t v) w := by
 simp only [AC.rel, AC.relZ] at hv
 obtain ⟨b, o, rfl, hc⟩ := hv
 by_cases ht : aggT P t = true
 ·rw [if_pos ht] at h
  obtain ⟨h1, h2, h3⟩ := h
  obtain ⟨vs, h4, h5⟩ := run_load_fagg hs hc h2 ht h1
  refine runK_same hs (v := .agg vs.toArray) (av := .agg _) ?_ ⟨vs, rfl, h5⟩ (fun x hx => ?_) h3
  ·simp [Instr.loadAt, Instr.sureAddr, h4]
  ·obtain ⟨j, hj⟩ := List.getElem?_of_mem (List.mem_of_mem_take hx)
   obtain ⟨u, _, h7⟩ := relCells_get hc j x hj
   exact AC.ok_of_relZ h7 _
 ·rw [if_neg ht] at h
  obtain ⟨h1, h⟩ := h
  cases hj : cs[0]? with
  | none => rw [hj] at h; exact h.elim
  | some x =>
   rw [hj] at h
   obtain ⟨u, h2, h3⟩ := relCells_get hc 0 x hj
   refine runK_same hs (v := u) (av := .c x) ?_ (AC.rel_of_relZ h3) (AC.ok_of_relZ h3 _) h
   have := run_loadVar_c (P := P) (froz_cell hs h2) (by simpa using ht) h1
   simp only [Nat.add_zero] at this
   simp [Instr.loadAt, Instr.sureAddr, this]
theorem runK_ffield {s : TypeId} {f p q : Nat} {cs : List AC} {v : Value} (hs : Sim B w0 ι H w) (hv : AC.rel ι (.fp cs) v) (hf : fieldT P s f = some (p, q)) (hq : q ≠ 0) (hK : K (.c (.fp (cs.drop p))) H) :
  RunK P B w0 ι H.length K (Instr.fieldAt s v f) w := by
 simp only [AC.rel, AC.relZ] at hv
 obtain ⟨b, o, rfl, hc⟩ := hv
 unfold fieldT at hf
 split at hf
 ·rename_i fs hfs
  cases hx : fs[f]? with
  | none => rw [hx] at hf; cases hf
  | some x =>
   rw [hx] at hf
   simp only [Option.map_some, Option.some.injEq, Prod.mk.injEq] at hf
   obtain ⟨h1, h2⟩ := hf
   have hinfo : (P.info? x.type).isSome = true := by
    cases hi : P.info? x.type with
    | none => simp [szT, hi] at h2; omega
    | some i => rfl
   have hz : szT P x.type ≠ 0 := by omega
   refine runK_same hs (v := .pointer (some ⟨b, o + p, none⟩)) (av := .c (.fp (cs.drop p))) ?_ ?_ trivial hK
   ·simp [Instr.fieldAt, run_underlying hfs, hx, Instr.sureAddr, fieldPlace, run_sizeOf hinfo, hz, h1, add_none]
   ·show AC.rel ι (.fp (cs.drop p)) _
    simp only [AC.rel, AC.relZ]
    exact ⟨b, o + p, rfl, relCells_drop hc p⟩
 ·cases hf
theorem runK_findex {t e sz : Nat} {kd : IntKind} {q : Int} {v : Value} {els : List (List AC)} {x : List AC} (hs : Sim B w0 ι H w) (hv : AC.rel ι (.lst sz els) v) (he : elemT P t = some e) (h1 : szT P e = sz)
  (h2 : (P.info? e).isSome = true) (h3 : 0 ≤ q) (h4 : q < els.length) (hx : els[q.toNat]? = some x) (hK : K (.c (.fp x)) H) : RunK P B w0 ι H.length K (Instr.indexAt t v (.int kd q)) w := by
 simp only [AC.rel, AC.relZ] at hv
 obtain ⟨p, c, rfl, hlc, hsz, hp0, hp1⟩ := hv
 have hu : P.underlying t = some (.slice e) := by
  unfold elemT at he
  split at he
  ·rename_i hh; injection he with he; subst he; exact hh
  ·cases he
 cases p with
 | none => have := (hp0 rfl).1; subst this; simp at h4; omega
 | some ad =>
  obtain ⟨hsp, hrows⟩ := hp1 ad rfl
  have hsp : ad.spot = none := by
   rcases hsp with h0 | h0
   ·subst h0; simp at h4; omega
   ·exact h0
  obtain ⟨b, o, sp⟩ := ad
  dsimp only at hsp hrows
  subst hsp
  refine runK_same hs (v := .pointer (some ⟨b, o + q.toNat * sz, none⟩)) (av := .c (.fp x)) ?_ ?_ trivial hK
  ·simp [Instr.indexAt, asIntOf, run_underlying hu, h3, h4, run_sizeOf h2, add_none, h1]
  ·show AC.rel ι (.fp x) _
   simp only [AC.rel, AC.relZ]
   exact ⟨b, o + q.toNat * sz, rfl, relRows_get hrows _ _ hx⟩
theorem runK_store {t : TypeId} {i k j : Nat} {ty sz : Nat} {els : List (List AC)} {e cs : List AC} {y : AV} {v : Value} (hs : Sim B w0 ι H w) (hi : H[i]? = some (.row ty sz els true)) (hk : els[k]? = some e) (hc : y.cells = some cs) (hr : y.rel ι v) (ho : y.ok H.length)
  (h1 : (P.info? t).isSome = true) (h2 : szT P t = cs.length) (h3 : j + cs.length ≤ sz) (hK : K .any (H.set i (.row ty sz (els.set k (setC e j cs)) true))) :
  ∃ w', (Instr.storeAt t (ptrOf ι (i, k, j)) v).run P w = .ok () w' ∧ ∃ ι' av H', Agree H.length ι ι' ∧ H.length ≤ H'.length ∧ Sim B w0 ι' H' w' ∧ AV.rel ι' av undef ∧ av.ok H'.length ∧ K av H' := by
 have hrc := cells_rel hc hr
 obtain ⟨w', h4, h5⟩ := run_store_row (P := P) hs hi hk h3 hrc (cells_ok hc ho)
 refine ⟨w', ?_, ι, .any, _, Agree.refl _ _, by simp, h5, trivial, trivial, hK⟩
 have hsz : v.cells.size = cs.length := by rw [relL_len hrc]; simp
 simp [Instr.storeAt, Instr.sureAddr, ptrOf, storeVar, run_sizeOf h1, h2, hsz, h4]
theorem runK_field {s : TypeId} {f i k j p q : Nat} (hs : Sim B w0 ι H w) (ho : i < H.length) (hf : fieldT P s f = some (p, q)) (hq : q ≠ 0) (hK : K (.c (.ptr (some (i, k, j + p)))) H) :
  RunK P B w0 ι H.length K (Instr.fieldAt s (ptrOf ι (i, k, j)) f) w := by
 unfold fieldT at hf
 split at hf
 ·rename_i fs hfs
  cases hx : fs[f]? with
  | none => rw [hx] at hf; cases hf
  | some x =>
   rw [hx] at hf
   simp only [Option.map_some, Option.some.injEq, Prod.mk.injEq] at hf
   obtain ⟨h1, h2⟩ := hf
   have hinfo : (P.info? x.type).isSome = true := by
    cases hi : P.info? x.type with
    | none => simp [szT, hi] at h2; omega
    | some i => rfl
   have hz : szT P x.type ≠ 0 := by omega
   refine runK_same hs (v := ptrOf ι (i, k, j + p)) (av := .c (.ptr (some (i, k, j + p)))) ?_ rfl ho hK
   simp [Instr.fieldAt, run_underlying hfs, hx, Instr.sureAddr, ptrOf, fieldPlace, run_sizeOf hinfo, hz, h1, at_add]
 ·cases hf
theorem runK_index {t e i k n sz ty : Nat} {kd : IntKind} {q : Int} {v : Value} {els : List (List AC)} {own : Bool} (hs : Sim B w0 ι H w) (hv : AC.rel ι (.sl (some (i, k)) n) v) (he : elemT P t = some e) (hi : H[i]? = some (.row ty sz els own)) (h1 : szT P e = sz)
  (h2 : (P.info? e).isSome = true) (h3 : 0 ≤ q) (h4 : q < n) (hK : K (.c (.ptr (some (i, k + q.toNat, 0)))) H) : RunK P B w0 ι H.length K (Instr.indexAt t v (.int kd q)) w := by
 obtain ⟨ad, rfl, h5, h6⟩ := hv
 have hu : P.underlying t = some (.slice e) := by
  unfold elemT at he
  split at he
  ·rename_i hh; injection he with he; subst he; exact hh
  ·cases he
 have had := h6 (.inl oMg)
 have hL := (hs.obj i _ hi).1
 refine runK_same hs (v := ptrOf ι (i, k + q.toNat, 0)) (av := .c (.ptr (some (i, k + q.toNat, 0)))) ?_ rfl (getElem?_lt hi) hK
 have e1 : ad.add (q.toNat * szT P e) = (ι i).at (k + q.toNat) 0 := by
  subst had
  rw [at_add, h1]
  simp [Loc.at, hL, Nat.add_mul]
 simp [Instr.indexAt, asIntOf, run_underlying hu, h3, h4, run_sizeOf h2, e1, ptrOf]
theorem fill_foldl : ∀ (vs : List Value) (off q : Nat) (cells : Array Value), off + q + vs.length ≤ cells.size →
  ((vs.zipIdx q).foldl (fun (cs : Array Value) (p : Value × Nat) => cs.setIfInBounds (off + p.2) p.1) cells).toList = cells.toList.take (off + q) ++ vs ++ cells.toList.drop (off + q + vs.length)
 | [], off, q, cells, h => by simp
 | v :: vs, off, q, cells, h => by
  rw [List.zipIdx_cons, List.foldl_cons, fill_foldl vs off (q + 1) _ (by simp at h ⊢; omega)]
  have hlt : off + q < cells.toList.length := by simp at h ⊢; omega
  have e := list_seg_step cells.toList (off + q) v vs (by simp at h ⊢; omega)
  simpa [Array.toList_setIfInBounds, Nat.add_assoc] using e
theorem fill_one (v : Value) (off : Nat) (cells : Array Value) (h : off + v.cells.size ≤ cells.size) :
  (v.cells.zipIdx.foldl (fun (cs : Array Value) (p : Value × Nat) => cs.setIfInBounds (off + p.2) p.1) cells).toList = cells.toList.take off ++ v.cells.toList ++ cells.toList.drop (off + v.cells.size) := by
 have := fill_foldl v.cells.toList off 0 cells (by simpa using h)
 rw [← Array.foldl_toList, Array.toList_zipIdx]
 simpa using this
theorem relL_setC {cs xs : List AC} {cells : List Value} {v : Value} (o : Nat) (h : relL ι cs cells) (k : relL ι xs v.cells.toList) : relL ι (setC cs o xs) (cells.take o ++ v.cells.toList ++ cells.drop (o + v.cells.size)) := by
 have hl : xs.length = v.cells.size := by rw [relL_len k]; simp
 unfold setC
 rw [hl]
 exact relL_append (relL_append (relL_take o h) k) (relL_drop _ h)
theorem setC_ok {cs xs : List AC} {o : Nat} (h : ∀ x ∈ cs, x.ok n) (k : ∀ x ∈ xs, x.ok n) : ∀ x ∈ setC cs o xs, x.ok n := by
 intro y hy
 simp only [setC, List.mem_append] at hy
 rcases hy with (hy | hy) | hy
 ·exact h y (List.mem_of_mem_take hy)
 ·exact k y hy
 ·exact h y (List.mem_of_mem_drop hy)
def partsRel (ι : En) (n : Nat) : List (Nat × AV) → List (Nat × Value) → Prop
 | [], [] => True
 | (i, x) :: xs, (j, v) :: vs => i = j ∧ x.rel ι v ∧ x.ok n ∧ partsRel ι n xs vs
 | _, _ => False
theorem partsRel_of (hF : FOk dd N ι n F a) : ∀ ps : List (Nat × Operand), partsRel ι n (partsOf ps (evC F)) (ps.map fun p => (p.1, a.eval p.2))
 | [] => trivial
 | (i, x) :: ps => ⟨rfl, evC_rel hF x, evC_ok hF x, partsRel_of hF ps⟩
theorem fill_build {t : TypeId} {fs : Array Field} (hfs : P.underlying t = some (.struct fs)) {places : Array (Nat × Nat)} (hp : ∀ i o q, fieldT P t i = some (o, q) → places[i]? = some (o, q)) :
  ∀ (ps : List (Nat × AV)) (vs : List (Nat × Value)) (cs cs' : List AC) (cells : Array Value), partsRel ι n ps vs → relL ι cs cells.toList → (∀ x ∈ cs, x.ok n) → buildAt P t cs ps = some cs' →
   ∃ cells', Instr.fill (places[·]?) cells vs = some cells' ∧ relL ι cs' cells'.toList ∧ ∀ x ∈ cs', x.ok n
 | [], [], cs, cs', cells, _, hr, ho, hb => by simp [buildAt] at hb; subst hb; exact ⟨cells, rfl, hr, ho⟩
 | [], _ :: _, _, _, _, h, _, _, _ => h.elim
 | _ :: _, [], _, _, _, h, _, _, _ => h.elim
 | (i, x) :: ps, (j, v) :: vs, cs, cs', cells, h, hr, ho, hb => by
  obtain ⟨rfl, h1, h2, h3⟩ := h
  unfold buildAt at hb
  cases hf : fieldT P t i with
  | none => rw [hf] at hb; cases hb
  | some p =>
   obtain ⟨o, q⟩ := p
   cases hc : x.cells with
   | none => rw [hf, hc] at hb; cases hb
   | some xs =>
    rw [hf, hc] at hb
    dsimp only at hb
    split at hb
    ·rename_i hcond
     obtain ⟨hq, hfit⟩ := hcond
     have hxr := cells_rel hc h1
     have hxs : xs.length = v.cells.size := by rw [relL_len hxr]; simp
     have hcl : cs.length = cells.size := by rw [relL_len hr]; simp
     have hone := fill_one v o cells oMg
     have := fill_build hfs hp ps vs (setC cs o xs) cs' _ h3 (by rw [hone]; exact relL_setC o hr hxr) (setC_ok ho (cells_ok hc h2)) hb
     obtain ⟨cells', h4, h5⟩ := this
     refine ⟨cells', ?_, h5⟩
     unfold Instr.fill
     rw [hp i o q hf]
     dsimp only
     rw [if_neg (by simp; omega)]
     exact h4
    ·cases hb
end
end Go.Proofs.YtagoolooikpabaaGreatDoor
namespace Go.Proofs.YtagoolooikpabaaGreatDoor
open Go Go.RowKit
section
variable {P : Program} {B : Nat → Prop} {rr : Option Nat} {dd : List Deferred} {w0 w w' : World} {ι ι' : En} {H : Hp} {F : Fr} {a : Act} {N n m : Nat} {Q : Exit → Act → World → Prop} {next : Act → World → Prop} {o : Oper} {K : AV → Hp → Prop}
theorem mapM_run (fs : Array Field) (h : ∀ f ∈ fs, (P.info? f.type).isSome = true) (w : World) :
  (fs.mapM (fun f => (do pure (f.offset, ← sizeOf f.type) : Sem (Nat × Nat)))).run P w = .ok (fs.map fun f => (f.offset, szT P f.type)) w := by
 obtain ⟨l⟩ := fs
 rw [List.mapM_toArray]
 have key : ∀ l : List Field, (∀ f ∈ l, (P.info? f.type).isSome = true) → (l.mapM (fun f => (do pure (f.offset, ← sizeOf f.type) : Sem (Nat × Nat)))).run P w = .ok (l.map fun f => (f.offset, szT P f.type)) w := by
  intro l
  induction l with
  | nil => intro _; simp
  | cons f l ih =>
   intro hl
   rw [List.mapM_cons]
   simp only [Sem.run_bind, run_sizeOf (hl f sMp), Result.andThen_ok, Sem.run_pure, ih (fun g hg => hl g (by simp [hg])), List.map_cons]
 rw [Sem.run_map, key l (fun f hf => h f (by simpa using hf))]
 simp
theorem runK_build {t : TypeId} {ps : Array (Nat × Operand)} {z cs : List AC} {fs : Array Field} (hs : Sim B w0 ι H w) (hF : FOk dd N ι H.length F a) (hfs : P.underlying t = some (.struct fs)) (hfo : fieldsOk P t = true) (hz : zeroT P t = some z) (hb : buildAt P t z (partsOf ps.toList (evC F)) = some cs) (hK : K (.agg cs) H) :
  RunK P B w0 ι H.length K (Instr.build t (ps.map fun (i, x) => (i, a.eval x))) w := by
 obtain ⟨zv, h1, h2, h3⟩ := zeroT_rel hz ι
 have hall : ∀ f ∈ fs, (P.info? f.type).isSome = true := by
  unfold fieldsOk at hfo
  rw [hfs] at hfo
  exact fun f hf => Array.all_eq_true_iff_forall_mem.1 hfo f hf
 have hp : ∀ (i o q : Nat), fieldT P t i = some (o, q) → (fs.map fun f => (f.offset, szT P f.type))[i]? = some (o, q) := by
  intro i o q h
  unfold fieldT at h
  rw [hfs] at h
  simpa using h
 have hpr := partsRel_of (n := H.length) hF ps.toList
 obtain ⟨cells', h4, h5, h6⟩ := fill_build (n := H.length) hfs hp _ _ z cs zv.cells hpr h2 (h3 _) hb
 refine runK_same hs (v := .agg cells') (av := .agg cs) ?_ ⟨cells'.toList, by simp, h5⟩ h6 hK
 unfold Instr.build
 simp only [Sem.run_bind, run_zeroValue h1, Result.andThen_ok, Sem.run_pure, run_underlying hfs, mapM_run fs hall]
 have e : (ps.map fun (i, x) => (i, a.eval x)).toList = ps.toList.map fun p => (p.1, a.eval p.2) := by simp
 rw [e, h4]
 simp
theorem litEls_sz {sz : Nat} : ∀ {ps : List (Nat × AV)} {q : Nat} {els : List (List AC)}, litEls sz q ps = some els → els.length = ps.length ∧ ∀ e ∈ els, e.length = sz
 | [], q, els, h => by simp [litEls] at h; subst h; simp
 | (i, v) :: ps, q, els, h => by
  unfold litEls at h
  cases hc : v.cells with
  | none => rw [hc] at h; cases h
  | some xs =>
   rw [hc] at h
   dsimp only at h
   split at h
   ·rename_i hcond
    cases hl : litEls sz (q + 1) ps with
    | none => rw [hl] at h; cases h
    | some els' =>
     rw [hl] at h
     simp only [Option.map_some, Option.some.injEq] at h
     subst h
     obtain ⟨h1, h2⟩ := litEls_sz hl
     exact ⟨by simp [h1], fun e he => by
      rcases List.mem_cons.1 he with rfl | he
      ·exact hcond.2
      ·exact h2 e he⟩
   ·cases h
theorem fill_lit {sz : Nat} : ∀ (ps : List (Nat × AV)) (vs : List (Nat × Value)) (q : Nat) (els : List (List AC)) (cells : Array Value) (done : List Value), partsRel ι n ps vs → litEls sz q ps = some els →
   done.length = q * sz → cells.size = (q + ps.length) * sz → cells.toList.take (q * sz) = done →
   ∃ (cells' : Array Value) (rest : List Value), Instr.fill (fun i => some (i * sz, sz)) cells vs = some cells' ∧ cells'.toList = done ++ rest ∧ relL ι els.flatten rest ∧ ∀ e ∈ els, ∀ x ∈ e, x.ok n
 | [], [], q, els, cells, done, _, hl, hd, hc, ht => by
  simp [litEls] at hl
  subst hl
  refine ⟨cells, [], rfl, ?_, trivial, by simp⟩
  rw [List.append_nil, ← ht, List.take_of_length_le (by simp at hc ⊢; omega)]
 | [], _ :: _, _, _, _, _, h, _, _, _, _ => h.elim
 | _ :: _, [], _, _, _, _, h, _, _, _, _ => h.elim
 | (i, x) :: ps, (j, v) :: vs, q, els, cells, done, h, hl, hd, hcs, ht => by
  obtain ⟨rfl, h1, h2, h3⟩ := h
  unfold litEls at hl
  cases hc : x.cells with
  | none => rw [hc] at hl; cases hl
  | some xs =>
   rw [hc] at hl
   dsimp only at hl
   split at hl
   ·rename_i hcond
    obtain ⟨rfl, hsz⟩ := hcond
    cases hl2 : litEls sz (i + 1) ps with
    | none => rw [hl2] at hl; cases hl
    | some els' =>
     rw [hl2] at hl
     simp only [Option.map_some, Option.some.injEq] at hl
     subst hl
     have hxr := cells_rel hc h1
     have hxs : v.cells.size = sz := by rw [← hsz, relL_len hxr]; simp
     have hroom : i * sz + v.cells.size ≤ cells.size := by
      rw [hcs, hxs, List.length_cons]
      have : (i + 1) * sz ≤ (i + (ps.length + 1)) * sz := Nat.mul_le_mul_right _ oMg
      rw [Nat.add_mul] at this; omega
     have hone := fill_one v (i * sz) cells hroom
     have hsize : (v.cells.zipIdx.foldl (fun (cs : Array Value) (p : Value × Nat) => cs.setIfInBounds (i * sz + p.2) p.1) cells).size = cells.size := by
      rw [← Array.length_toList, hone]; simp; omega
     obtain ⟨cells', rest, h4, h5, h6, h7⟩ := fill_lit ps vs (i + 1) els' _ (done ++ v.cells.toList) h3 hl2 (by simp [hd, hxs, Nat.add_mul]) (by rw [hsize, hcs, List.length_cons]; congr 1; omega)
      (by
       rw [hone, ht, Nat.add_mul, Nat.one_mul, List.take_append_of_le_length (by simp [hd, hxs])]
       rw [List.take_of_length_le (by simp [hd, hxs])])
     refine ⟨cells', v.cells.toList ++ rest, ?_, by rw [h5, List.append_assoc], by rw [List.flatten_cons]; exact relL_append hxr h6, ?_⟩
     ·unfold Instr.fill
      dsimp only
      rw [if_neg (by simp; omega)]
      exact h4
     ·intro e he
      rcases List.mem_cons.1 he with rfl | he
      ·exact cells_ok hc h2
      ·exact h7 e he
   ·cases hl
theorem flat_get {sz : Nat} : ∀ (els : List (List AC)), (∀ e ∈ els, e.length = sz) → ∀ (k j : Nat) (e : List AC) (x : AC), els[k]? = some e → e[j]? = some x → els.flatten[k * sz + j]? = some x
 | [], _, k, j, e, x, hk, _ => by simp at hk
 | e0 :: els, h, 0, j, e, x, hk, hj => by
  simp at hk; subst hk
  rw [List.flatten_cons, Nat.zero_mul, Nat.zero_add, List.getElem?_append_left (getElem?_lt hj)]; exact hj
 | e0 :: els, h, k + 1, j, e, x, hk, hj => by
  simp at hk
  have h0 := h e0 sMp
  rw [List.flatten_cons, List.getElem?_append_right (by rw [h0, Nat.add_mul]; omega), h0]
  rw [show (k + 1) * sz + j - sz = k * sz + j by rw [Nat.add_mul]; omega]
  exact flat_get els (fun e he => h e (by simp [he])) k j e x hk hj
theorem new_row {e sz cap : Nat} {els : List (List AC)} {vs : Array Value} (hs : Sim B w0 ι H w) (hsz : ∀ x ∈ els, x.length = sz) (hok : ∀ x ∈ els, ∀ y ∈ x, y.ok H.length) (hr : relL ι els.flatten (vs.toList.take (els.length * sz))) (hc : els.length ≤ cap) (hv : vs.size = cap * sz) (hm : cap ≤ maxLen) :
  Sim B w0 (upd ι H.length ⟨w.heap.size, 0, sz, cap⟩) (H ++ [.row e sz els true]) (w.alloc (.cells vs e)) := by
 refine hs.new _ _ _ rfl (fun x hx => ⟨hsz x hx, hok x hx⟩) ⟨rfl, hc, vs, (0, 0), heap_alloc_new w _, fun k x hk j y hj => ?_, fun _ => ⟨rfl, rfl, hv, hm⟩⟩
 obtain ⟨u, h1, h2⟩ := relL_get hr (k * sz + j) y (flat_get els hsz k j x y hk hj)
 refine ⟨u, ?_, AC.rel_agree (upd_agree ι H.length _) (hok x (List.mem_of_getElem? hk) y (List.mem_of_getElem? hj)) h2⟩
 rw [List.getElem?_take] at h1
 split at h1
 ·rw [Nat.zero_add]; simpa using h1
 ·cases h1
theorem elemT_und {t e : TypeId} (he : elemT P t = some e) : P.underlying t = some (.slice e) := by
 unfold elemT at he
 split at he
 ·rename_i hh; injection he with he; subst he; exact hh
 ·cases he
theorem zero_info {e : TypeId} (h : (zeroT P e).isSome = true) : (P.info? e).isSome = true := by
 cases hi : P.info? e with
 | none => simp [zeroT, hi] at h
 | some i => rfl
theorem runK_buildSlice {t e n0 : Nat} {ps : Array (Nat × Operand)} {els : List (List AC)} (hs : Sim B w0 ι H w) (hF : FOk dd N ι H.length F a) (he : elemT P t = some e) (hl : litEls (szT P e) 0 (partsOf ps.toList (evC F)) = some els)
  (h : n0 = ps.size ∧ 0 < szT P e ∧ n0 * szT P e ≤ 16777216 ∧ (zeroT P e).isSome = true ∧ K (.c (.sl (some (H.length, 0)) n0)) (H ++ [.row e (szT P e) els true])) :
  RunK P B w0 ι H.length K (Instr.buildSlice t n0 (ps.map fun (i, x) => (i, a.eval x))) w := by
 obtain ⟨rfl, hz, hbig, hzero, hK⟩ := h
 obtain ⟨z, hz1⟩ := Option.isSome_iff_exists.1 hzero
 obtain ⟨zv, h1, h2, h3⟩ := zeroT_rel hz1 ι
 have hpr := partsRel_of (n := H.length) hF ps.toList
 obtain ⟨hlen, hszs⟩ := litEls_sz hl
 have hpl : (partsOf ps.toList (evC F)).length = ps.size := by simp [partsOf]
 let init : Array Value := (Array.range (ps.size * szT P e)).map (zv.cells[· % zv.cells.size]!)
 have hinit : init.size = ps.size * szT P e := by simp [init]
 obtain ⟨cells', rest, h4, h5, h6, h7⟩ := fill_lit (sz := szT P e) _ _ 0 els init [] hpr hl sMp (by rw [hinit, hpl]; simp) sMp
 simp only [List.nil_append] at h5
 have hcl : cells'.size = ps.size * szT P e := by
  rw [← Array.length_toList, h5, ← relL_len h6]
  have : ∀ l : List (List AC), (∀ e' ∈ l, e'.length = szT P e) → l.flatten.length = l.length * szT P e := by
   intro l hl
   induction l with
   | nil => simp
   | cons x l ih => rw [List.flatten_cons, List.length_append, ih (fun e' he' => hl e' (by simp [he'])), hl x sMp, List.length_cons, Nat.add_mul]; omega
  rw [this els hszs, hlen, hpl]
 have hm : ps.size ≤ maxLen := by
  have : ps.size * 1 ≤ ps.size * szT P e := Nat.mul_le_mul_left _ hz
  simp only [maxLen]; omega
 have hsim := new_row (e := e) (cap := ps.size) (vs := cells') hs hszs h7 (by rw [List.take_of_length_le (by rw [Array.length_toList, hcl, hlen, hpl]; exact Nat.le_refl _), h5]; exact h6) oMg hcl hm
 refine ⟨.slice (some ⟨w.heap.size, 0, none⟩) ps.size ps.size, _, _, _, _, ?_, upd_agree _ _ _, by simp, hsim, ?_, ?_, hK⟩
 ·unfold Instr.buildSlice
  simp only [Sem.run_bind, run_underlying (elemT_und he), Result.andThen_ok, run_sizeOf (zero_info hzero)]
  by_cases hn0 : ps.size = 0
  ·have hps : ps = #[] := Array.size_eq_zero_iff.1 hn0
   subst hps
   have hc0 : cells' = #[] := Array.size_eq_zero_iff.1 (by rw [hcl]; simp)
   subst hc0
   have e0 : ∀ f : Nat → Value, Array.map f (Array.range 0) = #[] := fun f => Array.size_eq_zero_iff.1 sMp
   simp [Instr.fill, newRow, e0]
  have hn : 0 < ps.size := by omega
  have hne : ¬ (ps.size * szT P e = 0) := by
   have : 1 * 1 ≤ ps.size * szT P e := Nat.mul_le_mul hn hz
   omega
  have e1 : (ps.map fun (i, x) => (i, a.eval x)).toList = ps.toList.map fun p => (p.1, a.eval p.2) := by simp
  rw [if_neg oMg, if_neg hne, e1]
  simp only [Sem.run_bind, Sem.run_pure, Result.andThen_ok, run_zeroValue h1]
  simp only [init] at h4
  rw [h4]
  simp [newRow]
 ·refine ⟨⟨w.heap.size, 0, none⟩, by rw [upd_same]; simp, by rw [upd_same]; simp, fun _ => by rw [upd_same]; simp [Loc.at]⟩
 ·show H.length < _
  simp
/-! ### slices, strings, append -/
theorem cap_eq (c k lo : Nat) : c - k - lo = c - (k + lo) := by omega
theorem run_bound {kd : IntKind} {q : Int} {y : Nat} {code : BoundsCode} (h0 : 0 ≤ q) (h1 : q ≤ y) (w : World) : (Instr.sliceBound (.int kd q) y code).run P w = .ok q.toNat w := by
 simp [Instr.sliceBound, asIntOf, h0, h1]
theorem loOf_cases {lo : Option AV} {vlo : Option Value} {l : Int} (hlo : loOf lo = some l) (rlo : ∀ x, lo = some x → ∃ v, vlo = some v ∧ x.rel ι v) (rlo0 : lo = none → vlo = none) : (vlo = none ∧ l = 0) ∨ ∃ kd, vlo = some (.int kd l) := by
 cases lo with
 | none => simp [loOf] at hlo; exact .inl ⟨rlo0 rfl, hlo.symm⟩
 | some x =>
  obtain ⟨v, rfl, hr⟩ := rlo x rfl
  unfold loOf at hlo
  split at hlo
  ·rename_i heq; cases heq
  ·rename_i kd q heq
   injection heq with heq; subst heq
   injection hlo with hlo; subst hlo
   have hv : v = .int kd q := hr
   subst hv
   exact .inr ⟨kd, rfl⟩
  ·cases hlo
theorem hiOf_cases {lo : Option AV} {vlo : Option Value} {l : Int} {n : Nat} (hlo : hiOf lo n = some l) (rlo : ∀ x, lo = some x → ∃ v, vlo = some v ∧ x.rel ι v) (rlo0 : lo = none → vlo = none) : (vlo = none ∧ l = n) ∨ ∃ kd, vlo = some (.int kd l) := by
 cases lo with
 | none => simp [hiOf] at hlo; exact .inl ⟨rlo0 rfl, hlo.symm⟩
 | some x =>
  obtain ⟨v, rfl, hr⟩ := rlo x rfl
  unfold hiOf at hlo
  split at hlo
  ·rename_i heq; cases heq
  ·rename_i kd q heq
   injection heq with heq; subst heq
   injection hlo with hlo; subst hlo
   have hv : v = .int kd q := hr
   subst hv
   exact .inr ⟨kd, rfl⟩
  ·cases hlo
theorem run_bounds3 {n c : Nat} {lo hi : Option AV} {vlo : Option Value} {vh : Value} {km : IntKind} {l h : Int} (hlo : loOf lo = some l) (hhi : hiOf hi n = some h) (rlo : ∀ x, lo = some x → ∃ v, vlo = some v ∧ x.rel ι v) (rlo0 : lo = none → vlo = none)
  (rhi : ∀ x, hi = some x → ∃ v, some vh = some v ∧ x.rel ι v) (rhi0 : hi = none → some vh = none) (h0 : 0 ≤ l) (h1 : l ≤ h) (h2 : h ≤ n) (h3 : n ≤ c) (w : World) :
  (Instr.sliceBounds true n c vlo (some vh) (some (.int km h))).run P w = .ok (l.toNat, h.toNat, h.toNat) w := by
 have a1 := loOf_cases hlo rlo rlo0
 have a2 := hiOf_cases hhi rhi rhi0
 clear hlo hhi rlo rlo0 rhi rhi0
 have b1 : ∀ (kd : IntKind) (code : BoundsCode), (Instr.sliceBound (.int kd l) h.toNat code).run P w = .ok l.toNat w := fun kd code => run_bound h0 oMg w
 have b2 : ∀ (kd : IntKind) (code : BoundsCode), (Instr.sliceBound (.int kd h) c code).run P w = .ok h.toNat w := fun kd code => run_bound oMg oMg w
 have b3 : ∀ (kd : IntKind) (code : BoundsCode), (Instr.sliceBound (.int kd h) h.toNat code).run P w = .ok h.toNat w := fun kd code => run_bound oMg oMg w
 rcases a2 with ⟨h9, _⟩ | ⟨k2, h9⟩
 ·cases h9
 ·injection h9 with h9
  subst h9
  rcases a1 with ⟨rfl, rfl⟩ | ⟨k1, rfl⟩ <;> simp_all [Instr.sliceBounds]
theorem run_boundsC {b : Bool} {n c : Nat} {lo hi : Option AV} {vlo vhi : Option Value} {l h : Int} (hlo : loOf lo = some l) (hhi : hiOf hi n = some h) (rlo : ∀ x, lo = some x → ∃ v, vlo = some v ∧ x.rel ι v) (rlo0 : lo = none → vlo = none)
  (rhi : ∀ x, hi = some x → ∃ v, vhi = some v ∧ x.rel ι v) (rhi0 : hi = none → vhi = none) (h0 : 0 ≤ l) (h1 : l ≤ h) (h2 : h ≤ c) (w : World) :
  (Instr.sliceBounds b n c vlo vhi none).run P w = .ok (l.toNat, h.toNat, c) w := by
 have a1 := loOf_cases hlo rlo rlo0
 have a2 := hiOf_cases hhi rhi rhi0
 clear hlo hhi rlo rlo0 rhi rhi0
 have b1 : ∀ (kd : IntKind) (code : BoundsCode), (Instr.sliceBound (.int kd l) h.toNat code).run P w = .ok l.toNat w := fun kd code => run_bound h0 oMg w
 have b2 : ∀ (kd : IntKind) (code : BoundsCode), (Instr.sliceBound (.int kd h) c code).run P w = .ok h.toNat w := fun kd code => run_bound oMg oMg w
 rcases a1 with ⟨rfl, rfl⟩ | ⟨k1, rfl⟩ <;> rcases a2 with ⟨rfl, rfl⟩ | ⟨k2, rfl⟩ <;> simp_all [Instr.sliceBounds]
theorem run_bounds {b : Bool} {n c : Nat} {lo hi : Option AV} {vlo vhi : Option Value} {l h : Int} (hlo : loOf lo = some l) (hhi : hiOf hi n = some h) (rlo : ∀ x, lo = some x → ∃ v, vlo = some v ∧ x.rel ι v) (rlo0 : lo = none → vlo = none)
  (rhi : ∀ x, hi = some x → ∃ v, vhi = some v ∧ x.rel ι v) (rhi0 : hi = none → vhi = none) (h0 : 0 ≤ l) (h1 : l ≤ h) (h2 : h ≤ n) (h3 : n ≤ c) (w : World) :
  (Instr.sliceBounds b n c vlo vhi none).run P w = .ok (l.toNat, h.toNat, c) w := run_boundsC hlo hhi rlo rlo0 rhi rhi0 h0 h1 oMg w
theorem run_boundsM {n c : Nat} {lo hi : Option AV} {vlo vhi : Option Value} {km : IntKind} {l h m : Int} (hlo : loOf lo = some l) (hhi : hiOf hi n = some h) (rlo : ∀ x, lo = some x → ∃ v, vlo = some v ∧ x.rel ι v) (rlo0 : lo = none → vlo = none)
  (rhi : ∀ x, hi = some x → ∃ v, vhi = some v ∧ x.rel ι v) (rhi0 : hi = none → vhi = none) (h0 : 0 ≤ l) (h1 : l ≤ h) (h2 : h ≤ m) (h3 : m ≤ n) (h4 : n ≤ c) (hh : vhi ≠ none) (w : World) :
  (Instr.sliceBounds true n c vlo vhi (some (.int km m))).run P w = .ok (l.toNat, h.toNat, m.toNat) w := by
 have a1 := loOf_cases hlo rlo rlo0
 have a2 := hiOf_cases hhi rhi rhi0
 clear hlo hhi rlo rlo0 rhi rhi0
 have b1 : ∀ (kd : IntKind) (code : BoundsCode), (Instr.sliceBound (.int kd l) h.toNat code).run P w = .ok l.toNat w := fun kd code => run_bound h0 oMg w
 have b2 : ∀ (kd : IntKind) (code : BoundsCode), (Instr.sliceBound (.int kd h) m.toNat code).run P w = .ok h.toNat w := fun kd code => run_bound oMg oMg w
 have b3 : ∀ (kd : IntKind) (code : BoundsCode), (Instr.sliceBound (.int kd m) c code).run P w = .ok m.toNat w := fun kd code => run_bound oMg oMg w
 rcases a2 with ⟨h9, _⟩ | ⟨k2, rfl⟩
 ·exact absurd h9 hh
 ·rcases a1 with ⟨rfl, rfl⟩ | ⟨k1, rfl⟩ <;> simp_all [Instr.sliceBounds]
theorem runK_sliceM {t e : Nat} {r : Option (Nat × Nat)} {n0 : Nat} {lo hi : Option AV} {v : Value} {vlo vhi : Option Value} {km : IntKind} {l h m : Int} (hs : Sim B w0 ι H w) (hv : AC.rel ι (.sl r n0) v) (he : elemT P t = some e) (hinfo : (P.info? e).isSome = true)
  (hlo : loOf lo = some l) (hhi : hiOf hi n0 = some h) (rlo : ∀ x, lo = some x → ∃ v, vlo = some v ∧ x.rel ι v) (rlo0 : lo = none → vlo = none)
  (rhi : ∀ x, hi = some x → ∃ v, vhi = some v ∧ x.rel ι v) (rhi0 : hi = none → vhi = none) (h0 : 0 ≤ l) (h1 : l ≤ h) (h2 : h ≤ m) (h3 : m ≤ n0) (hh : hi ≠ none) (hK : K .any H) :
  RunK P B w0 ι H.length K (Instr.sliceAt t v vlo vhi (some (.int km m))) w := by
 have hu := elemT_und he
 have key : ∃ a c, v = .slice a n0 c ∧ n0 ≤ c := by
  cases r with
  | none => obtain ⟨rfl, rfl⟩ := hv; exact ⟨_, _, rfl, Nat.le_refl _⟩
  | some p => obtain ⟨ad, rfl, h5, _⟩ := hv; exact ⟨_, _, rfl, by omega⟩
 obtain ⟨a, c, rfl, hc⟩ := key
 have hh' : vhi ≠ none := by
  cases hi with
  | none => exact absurd rfl hh
  | some x => obtain ⟨v, hv, _⟩ := rhi x rfl; rw [hv]; simp
 have hb := run_boundsM (P := P) (ι := ι) (km := km) (n := n0) (c := c) hlo hhi rlo rlo0 rhi rhi0 h0 h1 h2 h3 hc hh' w
 cases a with
 | none =>
  refine runK_same hs (v := .slice none (h.toNat - l.toNat) (m.toNat - l.toNat)) (av := .any) ?_ trivial trivial hK
  simp [Instr.sliceAt, Instr.slice, run_underlying hu, hb, run_sizeOf hinfo]
 | some ad =>
  refine runK_same hs (v := .slice (some (if m.toNat = l.toNat then ad else ad.add (l.toNat * szT P e))) (h.toNat - l.toNat) (m.toNat - l.toNat)) (av := .any) ?_ trivial trivial hK
  simp only [Instr.sliceAt, Instr.slice, Sem.run_bind, run_underlying hu, Result.andThen_ok, hb, run_sizeOf hinfo, Sem.run_pure]
  split <;> simp
theorem runK_slice {t e : Nat} {r : Option (Nat × Nat)} {n0 : Nat} {lo hi : Option AV} {v : Value} {vlo vhi : Option Value} {l h : Int} (hs : Sim B w0 ι H w) (hv : AC.rel ι (.sl r n0) v) (ho : (AC.sl r n0).ok H.length) (he : elemT P t = some e) (hinfo : (P.info? e).isSome = true)
  (hel : ∀ i k, r = some (i, k) → ∃ ty els own, H[i]? = some (.row ty (szT P e) els own)) (hlo : loOf lo = some l) (hhi : hiOf hi n0 = some h) (rlo : ∀ x, lo = some x → ∃ v, vlo = some v ∧ x.rel ι v) (rlo0 : lo = none → vlo = none)
  (rhi : ∀ x, hi = some x → ∃ v, vhi = some v ∧ x.rel ι v) (rhi0 : hi = none → vhi = none) (h0 : 0 ≤ l) (h1 : l ≤ h) (h2 : h ≤ n0 ∨ h ≤ rowN H r) (hK : K (.c (.sl (r.map fun p => (p.1, p.2 + l.toNat)) (h.toNat - l.toNat))) H) :
  RunK P B w0 ι H.length K (Instr.sliceAt t v vlo vhi none) w := by
 have hu := elemT_und he
 cases r with
 | none =>
  obtain ⟨rfl, rfl⟩ := hv
  have h2 : h ≤ ((0 : Nat) : Int) := h2.elim id id
  have hb := run_bounds (P := P) (ι := ι) (b := true) (n := 0) (c := 0) hlo hhi rlo rlo0 rhi rhi0 h0 h1 h2 lRf w
  have hl0 : l = 0 := by omega
  have hh0 : h = 0 := by omega
  subst hl0; subst hh0
  refine runK_same hs (v := .slice none 0 0) (av := .c (.sl none 0)) ?_ ⟨rfl, rfl⟩ trivial hK
  simp only [Int.toNat_zero] at hb
  simp [Instr.sliceAt, Instr.slice, run_underlying hu, hb, run_sizeOf hinfo]
 | some p =>
  obtain ⟨i, k⟩ := p
  obtain ⟨ad, rfl, h5, h6⟩ := hv
  obtain ⟨ty, els, own, hi⟩ := hel i k rfl
  have hL := (hs.obj i _ hi).1
  have hLc := (hs.obj i _ hi).2.1
  have hcap : h ≤ (((ι i).cap - k : Nat) : Int) := by
   rcases h2 with h2 | h2
   ·omega
   ·rw [rowN_of hi] at h2; omega
  have hb := run_boundsC (P := P) (ι := ι) (b := true) (n := n0) (c := (ι i).cap - k) hlo hhi rlo rlo0 rhi rhi0 h0 h1 hcap w
  refine runK_same hs (v := .slice (some (if (ι i).cap - k = l.toNat then ad else ad.add (l.toNat * szT P e))) (h.toNat - l.toNat) ((ι i).cap - k - l.toNat)) (av := .c (.sl (some (i, k + l.toNat)) (h.toNat - l.toNat))) ?_ ?_ (getElem?_lt hi) hK
  ·simp only [Instr.sliceAt, Instr.slice, Sem.run_bind, run_underlying hu, Result.andThen_ok, hb, run_sizeOf hinfo, Sem.run_pure]
   split <;> simp
  ·refine ⟨_, by rw [cap_eq], by omega, fun hne => ?_⟩
   by_cases hc : (ι i).cap - k = l.toNat
   ·rw [if_pos hc]
    have : k = 0 ∧ l.toNat = 0 := by omega
    rw [this.1, this.2]
    exact (h6 (.inr this.1)).trans (by rw [this.1])
   ·rw [if_neg hc, h6 oMg, at_add]
    simp [Loc.at, hL, Nat.add_mul]
theorem flat_len {sz : Nat} : ∀ l : List (List AC), (∀ x ∈ l, x.length = sz) → l.flatten.length = l.length * sz
 | [], _ => by simp
 | x :: l, hl => by rw [List.flatten_cons, List.length_append, flat_len l (fun e' he' => hl e' (by simp [he'])), hl x sMp, List.length_cons, Nat.add_mul]; omega
def Src (P : Program) (w : World) (ι : En) (n : Nat) (ad : Addr) (e m : Nat) (new : List (List AC)) : Prop :=
 (∀ x ∈ new, x.length = szT P e) ∧ (∀ x ∈ new, ∀ y ∈ x, y.ok n) ∧ new.length = m ∧ ∃ news, relL ι new.flatten news ∧ ∀ (j : Nat) (v : Value), news[j]? = some v → w.cell? (ad.add j) = some v
theorem src_mk {ad : Addr} {e m : Nat} {new : List (List AC)} (h1 : ∀ x ∈ new, x.length = szT P e) (h2 : ∀ x ∈ new, ∀ y ∈ x, y.ok n) (h3 : new.length = m) (hz : 0 < szT P e)
  (h : ∀ (k : Nat) (x : List AC), new[k]? = some x → ∀ (j : Nat) (y : AC), x[j]? = some y → ∃ u, w.cell? (ad.add (k * szT P e + j)) = some u ∧ y.rel ι u) : Src P w ι n ad e m new := by
 refine ⟨h1, h2, h3, relL_build new.flatten (fun j => w.cell? (ad.add j)) (fun j x hx => ?_)⟩
 have hjl := getElem?_lt hx
 rw [flat_len _ h1, h3] at hjl
 have hq : j / szT P e < m := Nat.div_lt_of_lt_mul (by rw [Nat.mul_comm]; exact hjl)
 have hr' : j % szT P e < szT P e := Nat.mod_lt _ hz
 have hjq : j / szT P e * szT P e + j % szT P e = j := by rw [Nat.mul_comm]; exact Nat.div_add_mod j _
 have hx1 : new[j / szT P e]? = some (new[j / szT P e]'oMg) := List.getElem?_eq_getElem oMg
 have hx2 : (new[j / szT P e]'oMg).length = szT P e := h1 _ (List.getElem_mem _)
 have hx3 := flat_get _ h1 (j / szT P e) (j % szT P e) _ ((new[j / szT P e]'oMg)[j % szT P e]'oMg) hx1 (List.getElem?_eq_getElem oMg)
 rw [hjq, hx] at hx3
 injection hx3 with hx3
 have := h _ _ hx1 (j % szT P e) _ (List.getElem?_eq_getElem oMg)
 rw [hjq, ← hx3] at this
 exact this
theorem src_row {e m0 : Nat} {r2 : Option (Nat × Nat)} {u : Value} {new : List (List AC)} (hs : Sim B w0 ι H w) (hu : AC.rel ι (.sl r2 m0) u) (h2 : srcA P H e r2 m0 new) (hm : 0 < m0) (hz : 0 < szT P e) :
  ∃ ad2 c2, u = .slice (some ad2) m0 c2 ∧ Src P w ι H.length ad2 e m0 new := by
 cases r2 with
 | none => exact h2.elim
 | some p2 =>
 obtain ⟨i2, k2⟩ := p2
 obtain ⟨e', els2, own2, hi2, hfit2, rfl⟩ := h2
 obtain ⟨ad2, rfl, h5, h6⟩ := hu
 have had2 := h6 (.inl oMg)
 have hobj2 := hs.obj i2 _ hi2
 have hL2 := hobj2.1
 have hsc2 := hs.scope i2 _ hi2
 refine ⟨ad2, _, rfl, src_mk (fun x hx => (hsc2 x (List.mem_of_mem_drop (List.mem_of_mem_take hx))).1) (fun x hx => (hsc2 x (List.mem_of_mem_drop (List.mem_of_mem_take hx))).2) (by rw [List.length_take, List.length_drop]; omega) hz (fun k x hk j y hj => ?_)⟩
 rw [List.getElem?_take] at hk
 split at hk
 ·rw [List.getElem?_drop] at hk
  have := row_cell hobj2 (k := k2 + k) (j := j) hk hj
  rw [had2, at_add]
  have e4 : (ι i2).at k2 (0 + (k * szT P e + j)) = (ι i2).at (k2 + k) j := by
   simp only [Loc.at, hL2, Nat.zero_add, Nat.add_mul]
   congr 1
   omega
  rw [e4]; exact this
 ·cases hk
theorem src_lst {e sz : Nat} {u : Value} {new : List (List AC)} (hs : Sim B w0 ι H w) (hu : AC.rel ι (.lst sz new) u) (hsz : sz = szT P e) (hm : 0 < new.length) (hz : 0 < szT P e) :
  ∃ ad2 c2, u = .slice (some ad2) new.length c2 ∧ Src P w ι H.length ad2 e new.length new := by
 simp only [AC.rel, AC.relZ] at hu
 obtain ⟨p, c, rfl, hlc, hall, hp0, hp1⟩ := hu
 cases p with
 | none => have := (hp0 rfl).1; subst this; simp at hm
 | some ad =>
  obtain ⟨hsp, hrows⟩ := hp1 ad rfl
  have hsp : ad.spot = none := by
   rcases hsp with h0 | h0
   ·subst h0; simp at hm
   ·exact h0
  obtain ⟨b, o, sp⟩ := ad
  dsimp only at hsp hrows
  subst hsp
  subst hsz
  refine ⟨_, _, rfl, src_mk hall (fun x hx y hy => ?_) rfl hz (fun k x hk j y hj => ?_)⟩
  ·obtain ⟨k, hk⟩ := List.getElem?_of_mem hx
   obtain ⟨j, hj⟩ := List.getElem?_of_mem hy
   obtain ⟨u, _, h2⟩ := relCells_get (relRows_get hrows k x hk) j y hj
   exact AC.ok_of_relZ h2 _
  ·have := fp_cell hs (relRows_get hrows k x hk) hj
   rw [add_none, ← Nat.add_assoc]; exact this
theorem runK_fslice {t e sz : Nat} {els : List (List AC)} {lo hi : Option AV} {v : Value} {vlo vhi : Option Value} {l h : Int} (hs : Sim B w0 ι H w) (hv : AC.rel ι (.lst sz els) v) (he : elemT P t = some e) (hinfo : (P.info? e).isSome = true) (hsz : sz = szT P e)
  (hlo : loOf lo = some l) (hhi : hiOf hi els.length = some h) (rlo : ∀ x, lo = some x → ∃ v, vlo = some v ∧ x.rel ι v) (rlo0 : lo = none → vlo = none)
  (rhi : ∀ x, hi = some x → ∃ v, vhi = some v ∧ x.rel ι v) (rhi0 : hi = none → vhi = none) (h0 : 0 ≤ l) (h1 : l ≤ h) (h2 : h ≤ els.length) (hK : K (.c (.lst sz ((els.drop l.toNat).take (h.toNat - l.toNat)))) H) :
  RunK P B w0 ι H.length K (Instr.sliceAt t v vlo vhi none) w := by
 have hu := elemT_und he
 simp only [AC.rel, AC.relZ] at hv
 obtain ⟨p, c, rfl, hlc, hall, hp0, hp1⟩ := hv
 have hb := run_bounds (P := P) (ι := ι) (b := true) (n := els.length) (c := c) hlo hhi rlo rlo0 rhi rhi0 h0 h1 h2 hlc w
 have hl : ((els.drop l.toNat).take (h.toNat - l.toNat)).length = h.toNat - l.toNat := by rw [List.length_take, List.length_drop]; omega
 cases p with
 | none =>
  obtain ⟨rfl, rfl⟩ := hp0 rfl
  have hl0 : l = 0 := by simp at h2; omega
  have hh0 : h = 0 := by simp at h2; omega
  subst hl0; subst hh0
  simp only [Int.toNat_zero] at hb
  refine runK_same hs (v := .slice none 0 0) (av := .c (.lst sz ([].drop (0:Int).toNat |>.take ((0:Int).toNat - (0:Int).toNat)))) ?_ ?_ trivial hK
  ·simp only [List.length_nil] at hb
   simp [Instr.sliceAt, Instr.slice, run_underlying hu, hb, run_sizeOf hinfo]
  ·show AC.rel ι (.lst sz _) _
   simp only [AC.rel, AC.relZ]
   exact ⟨none, 0, by simp, by simp, by simp, by simp, by simp⟩
 | some ad =>
  obtain ⟨hsp, hrows⟩ := hp1 ad rfl
  refine runK_same hs (v := .slice (some (if c = l.toNat then ad else ad.add (l.toNat * szT P e))) (h.toNat - l.toNat) (c - l.toNat)) (av := .c (.lst sz ((els.drop l.toNat).take (h.toNat - l.toNat)))) ?_ ?_ trivial hK
  ·simp only [Instr.sliceAt, Instr.slice, Sem.run_bind, run_underlying hu, Result.andThen_ok, hb, run_sizeOf hinfo, Sem.run_pure]
   split <;> simp
  ·show AC.rel ι (.lst sz _) _
   simp only [AC.rel, AC.relZ]
   refine ⟨_, c - l.toNat, by rw [hl], by rw [hl]; omega, fun x hx => hall x (List.mem_of_mem_drop (List.mem_of_mem_take hx)), by simp, fun a ha => ?_⟩
   injection ha with ha
   rcases Nat.eq_zero_or_pos (h.toNat - l.toNat) with hz | hz
   ·have : (els.drop l.toNat).take (h.toNat - l.toNat) = [] := List.eq_nil_of_length_eq_zero (by rw [hl]; exact hz)
    rw [this]; simp [relRows]
   ·have hsp : ad.spot = none := by
     rcases hsp with h9 | h9
     ·subst h9; simp at h2; omega
     ·exact h9
    obtain ⟨b, o, sp⟩ := ad
    dsimp only at hsp hrows
    subst hsp
    rw [if_neg oMg, add_none] at ha
    subst ha
    refine ⟨.inr rfl, relRows_of fun k x hk => ?_⟩
    rw [List.getElem?_take] at hk
    split at hk
    ·rw [List.getElem?_drop] at hk
     have := relRows_get hrows _ _ hk
     dsimp only
     rw [Nat.add_mul, ← Nat.add_assoc] at this
     rw [← hsz]; exact this
    ·cases hk
theorem runK_fslice3 {t e sz : Nat} {els : List (List AC)} {lo hi : Option AV} {v : Value} {vlo : Option Value} {vh : Value} {km : IntKind} {l h : Int} (hs : Sim B w0 ι H w) (hv : AC.rel ι (.lst sz els) v) (he : elemT P t = some e) (hinfo : (P.info? e).isSome = true) (hsz : sz = szT P e)
  (hlo : loOf lo = some l) (hhi : hiOf hi els.length = some h) (rlo : ∀ x, lo = some x → ∃ v, vlo = some v ∧ x.rel ι v) (rlo0 : lo = none → vlo = none)
  (rhi : ∀ x, hi = some x → ∃ v, some vh = some v ∧ x.rel ι v) (rhi0 : hi = none → some vh = none) (h0 : 0 ≤ l) (h1 : l ≤ h) (h2 : h ≤ els.length) (hK : K (.c (.lst sz ((els.drop l.toNat).take (h.toNat - l.toNat)))) H) :
  RunK P B w0 ι H.length K (Instr.sliceAt t v vlo (some vh) (some (.int km h))) w := by
 have hu := elemT_und he
 simp only [AC.rel, AC.relZ] at hv
 obtain ⟨p, c, rfl, hlc, hall, hp0, hp1⟩ := hv
 have hb := run_bounds3 (P := P) (ι := ι) (km := km) (n := els.length) (c := c) hlo hhi rlo rlo0 rhi rhi0 h0 h1 h2 hlc w
 have hl : ((els.drop l.toNat).take (h.toNat - l.toNat)).length = h.toNat - l.toNat := by rw [List.length_take, List.length_drop]; omega
 cases p with
 | none =>
  obtain ⟨rfl, rfl⟩ := hp0 rfl
  have hl0 : l = 0 := by simp at h2; omega
  have hh0 : h = 0 := by simp at h2; omega
  subst hl0; subst hh0
  simp only [Int.toNat_zero] at hb
  refine runK_same hs (v := .slice none 0 0) (av := .c (.lst sz ([].drop (0:Int).toNat |>.take ((0:Int).toNat - (0:Int).toNat)))) ?_ ?_ trivial hK
  ·simp only [List.length_nil] at hb
   simp [Instr.sliceAt, Instr.slice, run_underlying hu, hb, run_sizeOf hinfo]
  ·show AC.rel ι (.lst sz _) _
   simp only [AC.rel, AC.relZ]
   exact ⟨none, 0, by simp, by simp, by simp, by simp, by simp⟩
 | some ad =>
  obtain ⟨hsp, hrows⟩ := hp1 ad rfl
  refine runK_same hs (v := .slice (some (if h.toNat = l.toNat then ad else ad.add (l.toNat * szT P e))) (h.toNat - l.toNat) (h.toNat - l.toNat)) (av := .c (.lst sz ((els.drop l.toNat).take (h.toNat - l.toNat)))) ?_ ?_ trivial hK
  ·simp only [Instr.sliceAt, Instr.slice, Sem.run_bind, run_underlying hu, Result.andThen_ok, hb, run_sizeOf hinfo, Sem.run_pure]
   split <;> simp
  ·show AC.rel ι (.lst sz _) _
   simp only [AC.rel, AC.relZ]
   refine ⟨_, h.toNat - l.toNat, by rw [hl], by rw [hl]; omega, fun x hx => hall x (List.mem_of_mem_drop (List.mem_of_mem_take hx)), by simp, fun a ha => ?_⟩
   injection ha with ha
   rcases Nat.eq_zero_or_pos (h.toNat - l.toNat) with hz | hz
   ·have : (els.drop l.toNat).take (h.toNat - l.toNat) = [] := List.eq_nil_of_length_eq_zero (by rw [hl]; exact hz)
    rw [this]; simp [relRows]
   ·have hsp : ad.spot = none := by
     rcases hsp with h9 | h9
     ·subst h9; simp at h2; omega
     ·exact h9
    obtain ⟨b, o, sp⟩ := ad
    dsimp only at hsp hrows
    subst hsp
    rw [if_neg oMg, add_none] at ha
    subst ha
    refine ⟨.inr rfl, relRows_of fun k x hk => ?_⟩
    rw [List.getElem?_take] at hk
    split at hk
    ·rw [List.getElem?_drop] at hk
     have := relRows_get hrows _ _ hk
     dsimp only
     rw [Nat.add_mul, ← Nat.add_assoc] at this
     rw [← hsz]; exact this
    ·cases hk
theorem zeroCells_get {z : Array Value} {n j : Nat} (hj : j < n * z.size) : (Builtin.zeroCells z n)[j]? = z[j % z.size]? := by
 have hz : 0 < z.size := by rcases Nat.eq_zero_or_pos z.size with h | h; · rw [h] at hj; omega
                            ·exact h
 have hr : j % z.size < z.size := Nat.mod_lt _ hz
 simp [Builtin.zeroCells, hj, hr]
theorem runK_appZeros {t t' e m : Nat} {k kn : IntKind} {z : List AC} {ty : TypeId} (hs : Sim B w0 ι H w) (he : elemT P t = some e) (htn : P.underlying t' = some (.int kn)) (hz1 : zeroT P e = some z) (hzl : z.length = szT P e)
  (hz : 0 < szT P e) (hm : 0 < m) (hby : m * P.bytesOf e ≤ 140737488355328) (h63 : m ≤ 9223372036854775807) (hK : K (.c (.sl (some (H.length, 0)) m)) (H ++ [.row e (szT P e) (List.replicate m z) true])) :
  RunK P B w0 ι H.length K (Builtin.append_ #[t, t'] ty #[.slice none 0 0, .int k m]) w := by
 obtain ⟨zv, hzi, hzr, hzo⟩ := zeroT_rel hz1 ι
 obtain ⟨inf, hinf⟩ := Option.isSome_iff_exists.1 (zero_info (P := P) (e := e) (by rw [hz1]; rfl))
 have hzero' : inf.zero = some zv := by rw [hinf] at hzi; simpa using hzi
 have hsz : inf.size = szT P e := by simp [szT, hinf]
 have hbt : inf.bytes = P.bytesOf e := by simp [Program.bytesOf, hinf]
 have hzs : zv.cells.size = szT P e := by rw [← Array.length_toList, ← relL_len hzr, hzl]
 have hrun := Go.Lib.run_append_nil_zeros (P := P) w t t' ty e inf zv k kn (elemT_und he) htn hinf hzero' m hm oMg oMg (by rw [hbt]; omega)
 have hge := grownCap_ge w m 0 e
 have hle := grownCap_le_maxLen w m 0 e (by simp only [maxLen]; omega)
 generalize grownCap w m 0 e = g at *
 have hsim := new_row (e := e) (sz := szT P e) (cap := g) (els := List.replicate m z) (vs := Builtin.zeroCells zv.cells m ++ Builtin.zeroCells zv.cells (g - m)) hs.drew (fun x hx => by rw [List.eq_of_mem_replicate hx]; exact hzl) (fun x hx y hy => by rw [List.eq_of_mem_replicate hx] at hy; exact hzo _ y hy)
  (by
   have hall : ∀ x ∈ List.replicate m z, x.length = szT P e := fun x hx => by rw [List.eq_of_mem_replicate hx]; exact hzl
   have hfl : (List.replicate m z).flatten.length = m * szT P e := by rw [flat_len _ hall, List.length_replicate]
   obtain ⟨xs, hx1, hx2⟩ := relL_build (ι := ι) (List.replicate m z).flatten (fun j => (Builtin.zeroCells zv.cells m)[j]?) (fun j x hx => by
    have hjl := getElem?_lt hx
    rw [hfl] at hjl
    have hq : j / szT P e < m := Nat.div_lt_of_lt_mul (by rw [Nat.mul_comm]; exact hjl)
    have hr' : j % szT P e < szT P e := Nat.mod_lt _ hz
    have hjq : j / szT P e * szT P e + j % szT P e = j := by rw [Nat.mul_comm]; exact Nat.div_add_mod j _
    have hx3 := flat_get _ hall (j / szT P e) (j % szT P e) z (z[j % szT P e]'oMg) (by simp [hq]) (List.getElem?_eq_getElem oMg)
    rw [hjq, hx] at hx3
    injection hx3 with hx3
    obtain ⟨u, hu1, hu2⟩ := relL_get hzr (j % szT P e) (z[j % szT P e]'oMg) (List.getElem?_eq_getElem oMg)
    refine ⟨u, ?_, by rw [hx3]; exact hu2⟩
    rw [zeroCells_get (by rw [hzs]; exact hjl), hzs]
    simpa using hu1)
   have hxl : xs.length = m * szT P e := by rw [← relL_len hx1, hfl]
   have hxe : xs = (Builtin.zeroCells zv.cells m).toList := by
    apply List.ext_getElem?
    intro j
    by_cases hj : j < xs.length
    ·rw [List.getElem?_eq_getElem hj, Array.getElem?_toList]
     exact (hx2 j _ (List.getElem?_eq_getElem hj)).symm
    ·rw [List.getElem?_eq_none oMg, List.getElem?_eq_none (by rw [Array.length_toList, size_zeroCells, hzs]; omega)]
   rw [List.length_replicate, Array.toList_append, List.take_append_of_le_length (by rw [Array.length_toList, size_zeroCells, hzs]; exact Nat.le_refl _), List.take_of_length_le (by rw [Array.length_toList, size_zeroCells, hzs]; exact Nat.le_refl _), ← hxe]
   exact hx1)
  (by rw [List.length_replicate]; exact hge) (by rw [Array.size_append, size_zeroCells, size_zeroCells, hzs, ← Nat.add_mul]; congr 1; omega) hle
 refine ⟨_, _, _, _, _, hrun, upd_agree _ _ _, by simp, hsim, ?_, ?_, hK⟩
 ·refine ⟨⟨w.heap.size, 0, none⟩, by rw [upd_same]; simp, by rw [upd_same]; simpa using hge, fun _ => by rw [upd_same]; simp [Loc.at]⟩
 ·show H.length < _
  simp
theorem runK_makeSlice {t e : Nat} {q : Int} {k k' : IntKind} {z : List AC} (hs : Sim B w0 ι H w) (he : elemT P t = some e) (hz1 : zeroT P e = some z) (hzl : z.length = szT P e)
  (hz : 0 < szT P e) (hq : 0 ≤ q) (hby : q * P.bytesOf e ≤ 140737488355328) (h63 : q ≤ 9223372036854775807) (hK : K (.c (.sl (some (H.length, 0)) q.toNat)) (H ++ [.row e (szT P e) (List.replicate q.toNat z) true])) :
  RunK P B w0 ι H.length K (Instr.makeSlice t (.int k q) (.int k' q)) w := by
 obtain ⟨m, rfl⟩ := Int.eq_ofNat_of_zero_le hq
 rw [Int.toNat_natCast] at hK
 obtain ⟨zv, hzi, hzr, hzo⟩ := zeroT_rel hz1 ι
 obtain ⟨inf, hinf⟩ := Option.isSome_iff_exists.1 (zero_info (P := P) (e := e) (by rw [hz1]; rfl))
 have hzero' : inf.zero = some zv := by rw [hinf] at hzi; simpa using hzi
 have hsz : inf.size = szT P e := by simp [szT, hinf]
 have hbt : inf.bytes = P.bytesOf e := by simp [Program.bytesOf, hinf]
 have hzs : zv.cells.size = szT P e := by rw [← Array.length_toList, ← relL_len hzr, hzl]
 have hrun := run_make (P := P) w t e inf zv (elemT_und he) hinf hzero' k k' (m : Int) (m : Int) oMg (Int.le_refl _) (by rw [hbt, Int.mul_comm]; omega) h63
 simp only [Int.toNat_natCast] at hrun
 have hsim := new_row (e := e) (sz := szT P e) (cap := m) (els := List.replicate m z) (vs := madeCells zv.cells (m * inf.size)) hs (fun x hx => by rw [List.eq_of_mem_replicate hx]; exact hzl) (fun x hx y hy => by rw [List.eq_of_mem_replicate hx] at hy; exact hzo _ y hy)
  (by
   have hall : ∀ x ∈ List.replicate m z, x.length = szT P e := fun x hx => by rw [List.eq_of_mem_replicate hx]; exact hzl
   have hfl : (List.replicate m z).flatten.length = m * szT P e := by rw [flat_len _ hall, List.length_replicate]
   obtain ⟨xs, hx1, hx2⟩ := relL_build (ι := ι) (List.replicate m z).flatten (fun j => (madeCells zv.cells (m * inf.size))[j]?) (fun j x hx => by
    have hjl := getElem?_lt hx
    rw [hfl] at hjl
    have hq : j / szT P e < m := Nat.div_lt_of_lt_mul (by rw [Nat.mul_comm]; exact hjl)
    have hr' : j % szT P e < szT P e := Nat.mod_lt _ hz
    have hjq : j / szT P e * szT P e + j % szT P e = j := by rw [Nat.mul_comm]; exact Nat.div_add_mod j _
    have hx3 := flat_get _ hall (j / szT P e) (j % szT P e) z (z[j % szT P e]'oMg) (by simp [hq]) (List.getElem?_eq_getElem oMg)
    rw [hjq, hx] at hx3
    injection hx3 with hx3
    obtain ⟨u, hu1, hu2⟩ := relL_get hzr (j % szT P e) (z[j % szT P e]'oMg) (List.getElem?_eq_getElem oMg)
    refine ⟨u, ?_, by rw [hx3]; exact hu2⟩
    have hgt : zv.cells[j % szT P e]? = some u := by simpa using hu1
    have hgt2 : zv.cells[j % zv.cells.size]! = u := by rw [hzs, getElem!_def, hgt]
    simp [madeCells, hsz, hjl, hgt2])
   have hxl : xs.length = m * szT P e := by rw [← relL_len hx1, hfl]
   have hml : (madeCells zv.cells (m * inf.size)).size = m * szT P e := by rw [size_madeCells, hsz]
   have hxe : xs = (madeCells zv.cells (m * inf.size)).toList := by
    apply List.ext_getElem?
    intro j
    by_cases hj : j < xs.length
    ·rw [List.getElem?_eq_getElem hj, Array.getElem?_toList]
     exact (hx2 j _ (List.getElem?_eq_getElem hj)).symm
    ·rw [List.getElem?_eq_none oMg, List.getElem?_eq_none (by rw [Array.length_toList, hml]; omega)]
   rw [List.length_replicate, List.take_of_length_le (by rw [Array.length_toList, hml]; exact Nat.le_refl _), ← hxe]
   exact hx1)
  (by rw [List.length_replicate]; exact Nat.le_refl _) (by rw [size_madeCells, hsz]) (by simp only [maxLen]; omega)
 refine ⟨_, _, _, _, _, hrun, upd_agree _ _ _, by simp, hsim, ?_, ?_, hK⟩
 ·refine ⟨⟨w.heap.size, 0, none⟩, by rw [upd_same]; simp, by rw [upd_same]; simp, fun _ => by rw [upd_same]; simp [Loc.at]⟩
 ·show H.length < _
  simp
theorem runK_copy {t t2 e i k n0 : Nat} {ty : TypeId} {tt sz : Nat} {els new : List (List AC)} {x : AC} {v u : Value} (hs : Sim B w0 ι H w) (hi : H[i]? = some (.row tt sz els true)) (he : elemT P t = some e) (hinfo : (P.info? e).isSome = true) (hsz : szT P e = sz) (hz : 0 < sz) (hn : 0 < n0) (hm : 0 < new.length) (hk : k + n0 ≤ els.length)
  (hv : AC.rel ι (.sl (some (i, k)) n0) v) (hu : x.rel ι u) (hx : srcL P H e x = some new) (hK : K (.c (.int .i64 (min new.length n0 : Nat))) (H.set i (.row tt sz (els.take k ++ new.take n0 ++ els.drop (k + min new.length n0)) true))) : RunK P B w0 ι H.length K (Builtin.copy_ #[t, t2] ty #[v, u]) w := by
 obtain ⟨ad, rfl, hcap, had⟩ := hv
 have hsc := hs.scope i _ hi
 obtain ⟨h1, h2, cur, fr, h3, h4, h5⟩ := hs.obj i _ hi
 obtain ⟨rfl, hoff, hcs, hcm⟩ := h5 rfl
 have hat : ad = ⟨(ι i).block, k * sz, none⟩ := by rw [had (.inl oMg)]; simp [Loc.at, hoff, h1]
 subst hat
 have hsrc : ∃ ad2 c2, u = .slice (some ad2) new.length c2 ∧ Src P w ι H.length ad2 e new.length new := by
  unfold srcL at hx
  split at hx
  ·split at hx
   ·injection hx with hx; subst hx
    exact src_lst hs hu (by assumption) hm oMg
   ·cases hx
  ·split at hx
   ·rename_i p m _ tt' sz' els' own' hj
    split at hx
    ·rename_i hc
     injection hx with hx
     have hl : new.length = m := by rw [← hx, List.length_take, List.length_drop]; omega
     rw [hl] at hm ⊢
     exact src_row hs hu ⟨tt', els', own', by rw [← hc.1]; exact hj, hc.2, hx.symm⟩ hm oMg
    ·cases hx
   ·cases hx
  ·cases hx
 obtain ⟨ad2, c2, rfl, g1, g2, _, news, g3, g4⟩ := hsrc
 generalize hq : min new.length n0 = q at *
 have hql : q ≤ new.length := by omega
 have hq2 : (new.take n0) = new.take q := by
  rw [← hq]
  rcases Nat.le_total new.length n0 with h | h
  ·rw [Nat.min_eq_left h, List.take_of_length_le h, List.take_of_length_le lRf]
  ·rw [Nat.min_eq_right h]
 have hnl : news.length = new.length * sz := by rw [← relL_len g3, flat_len _ g1, hsz]
 have hcl : (news.take (q * sz)).length = q * sz := by
  rw [List.length_take, hnl]
  exact Nat.min_eq_left (Nat.mul_le_mul_right _ hql)
 have hload := run_loadCells_list (P := P) w ad2 (news.take (q * sz)) (fun j v hj => g4 j v (by
  rw [List.getElem?_take] at hj
  split at hj
  ·exact hj
  ·cases hj))
 rw [hcl] at hload
 have hone : ∀ z ∈ news.take (q * sz), z.oneCell' = true := by
  intro z hzm
  obtain ⟨j, hj⟩ := List.getElem?_of_mem (List.mem_of_mem_take hzm)
  have hjl := getElem?_lt hj
  rw [← relL_len g3] at hjl
  obtain ⟨z', hz1, hz2⟩ := relL_get g3 j _ (List.getElem?_eq_getElem hjl)
  rw [hj] at hz1
  injection hz1 with hz1
  subst hz1
  exact AC.rel_one hz2
 have hfit : k * sz + (news.take (q * sz)).length ≤ cur.size := by
  rw [hcl, hcs, ← Nat.add_mul]
  exact Nat.mul_le_mul_right _ oMg
 have hrun := run_storeCells_at P (ι i).block (k * sz) tt (news.take (q * sz)) 0 cur w h3 (by simpa using hfit) hone
 try simp only [Nat.add_zero] at hrun
 obtain ⟨inf, hinf⟩ := Option.isSome_iff_exists.1 hinfo
 have hisz : inf.size = sz := by rw [← hsz]; simp [szT, hinf]
 obtain ⟨w', hw, hset⟩ : ∃ w', (storeCells ⟨(ι i).block, k * sz, none⟩ (news.take (q * sz)) 0).run P w = .ok () w' ∧ Sim B w0 ι (H.set i (.row tt sz (els.take k ++ new.take n0 ++ els.drop (k + q)) true)) w' := by
  have hkl : (els.take k).length = k := by rw [List.length_take]; omega
  have hnq : (new.take q).length = q := by rw [List.length_take]; omega
  refine ⟨_, hrun, hs.set hi rfl (fun p hp => setRow_other w _ p _ hp) (setRow_size _ _ _) rfl rfl rfl ?_ ?_⟩
  ·intro z hzm
   rcases List.mem_append.1 hzm with hzm | hzm
   ·rcases List.mem_append.1 hzm with hzm | hzm
    ·exact hsc z (List.mem_of_mem_take hzm)
    ·exact ⟨(g1 z (List.mem_of_mem_take hzm)).trans hsz, g2 z (List.mem_of_mem_take hzm)⟩
   ·exact hsc z (List.mem_of_mem_drop hzm)
  refine ⟨h1, by rw [hq2]; simp only [List.length_append, List.length_drop, hkl, hnq]; omega, _, (0, 0), setRow_heap w _ cur _ tt _ h3, fun k' e' hk' j' x' hj' => ?_, fun _ => ⟨rfl, hoff, by simp at hfit ⊢; omega, hcm⟩⟩
  rw [hq2] at hk'
  have hsp := splice_get els k (new.take q) k' (by rw [hnq]; omega)
  rw [hnq] at hsp
  rw [hsp] at hk'
  have hget := splice_get cur.toList (k * sz) (news.take (q * sz)) (k' * sz + j') (by simpa using hfit)
  have hj'l : j' < sz := by
   have hlen : e'.length = sz := by
    split at hk'
    ·exact (hsc e' (List.mem_of_getElem? hk')).1
    ·split at hk'
     ·exact (g1 e' (List.mem_of_mem_take (List.mem_of_getElem? hk'))).trans hsz
     ·exact (hsc e' (List.mem_of_getElem? hk')).1
   have := getElem?_lt hj'
   omega
  rw [hoff, Nat.zero_add, List.getElem?_toArray]
  rw [hcl] at hget ⊢
  rw [hget]
  by_cases c1 : k' < k
  ·rw [if_pos c1] at hk'
   have hap := mul_apart (j := j') (j' := 0) (sz := sz) c1 hj'l
   rw [if_pos oMg]
   obtain ⟨z, hz1, hz2⟩ := h4 k' e' hk' j' x' hj'
   rw [hoff, Nat.zero_add] at hz1
   exact ⟨z, by rw [Array.getElem?_toList]; exact hz1, hz2⟩
  ·rw [if_neg c1] at hk'
   have c1' : k * sz ≤ k' * sz := Nat.mul_le_mul_right _ oMg
   rw [if_neg oMg]
   by_cases c2 : k' < k + q
   ·rw [if_pos c2] at hk'
    have hap := mul_apart (j := j') (j' := 0) (sz := sz) c2 hj'l
    rw [Nat.add_mul] at hap
    rw [if_pos oMg]
    rw [List.getElem?_take] at hk'
    split at hk'
    ·rename_i hlt
     have hfg := flat_get _ g1 (k' - k) j' e' x' hk' hj'
     rw [hsz] at hfg
     obtain ⟨z, hz1, hz2⟩ := relL_get g3 _ _ hfg
     refine ⟨z, ?_, hz2⟩
     have hidx : k' * sz + j' - k * sz = (k' - k) * sz + j' := by rw [Nat.sub_mul]; omega
     rw [hidx, List.getElem?_take, if_pos (by
      have := mul_apart (j := j') (j' := 0) (sz := sz) hlt hj'l
      omega)]
     exact hz1
    ·cases hk'
   ·rw [if_neg c2] at hk'
    have c2' : (k + q) * sz ≤ k' * sz := Nat.mul_le_mul_right _ oMg
    rw [Nat.add_mul] at c2'
    rw [if_neg oMg]
    obtain ⟨z, hz1, hz2⟩ := h4 k' e' hk' j' x' hj'
    rw [hoff, Nat.zero_add] at hz1
    exact ⟨z, by rw [Array.getElem?_toList]; exact hz1, hz2⟩
 refine ⟨.int .i64 (q : Nat), _, ι, .c (.int .i64 (q : Nat)), _, ?_, Agree.refl _ _, by simp, hset, rfl, trivial, hK⟩
 have hmin : Nat.min new.length n0 = q := hq
 simp [Builtin.copy_, run_underlying (elemT_und he), Builtin.lenOf, Builtin.firstCells, sizeOf, typeInfo, hinf, hisz, hmin, hload, hw, goInt]
theorem sim_splice {i k tt sz : Nat} {els new : List (List AC)} {cur : Array Value} {news : List Value} {fr : Nat × Nat} (hs : Sim B w0 ι H w) (hi : H[i]? = some (.row tt sz els true)) (h3 : w.heap[(ι i).block]? = some (.cells cur tt fr))
  (g1 : ∀ x ∈ new, x.length = sz) (g2 : ∀ x ∈ new, ∀ y ∈ x, y.ok H.length) (g3 : relL ι new.flatten news) (hk : k + new.length ≤ els.length) :
  Sim B w0 ι (H.set i (.row tt sz (els.take k ++ new ++ els.drop (k + new.length)) true)) (w.setRow (ι i).block (cur.toList.take (k * sz) ++ news ++ cur.toList.drop (k * sz + news.length)).toArray) := by
 have hsc := hs.scope i _ hi
 obtain ⟨h1, h2, cur', fr', h3', h4, h5⟩ := hs.obj i _ hi
 rw [h3] at h3'
 injection h3' with h3'
 injection h3' with e1 e2 e3
 subst e1; subst e3
 obtain ⟨rfl, hoff, hcs, hcm⟩ := h5 rfl
 have hcl : news.length = new.length * sz := by rw [← relL_len g3, flat_len _ g1]
 have hfit : k * sz + news.length ≤ cur.size := by
  rw [hcl, hcs, ← Nat.add_mul]
  exact Nat.mul_le_mul_right _ oMg
 have hkl : (els.take k).length = k := by rw [List.length_take]; omega
 refine hs.set hi rfl (fun p hp => setRow_other w _ p _ hp) (setRow_size _ _ _) rfl rfl rfl ?_ ?_
 ·intro z hzm
  rcases List.mem_append.1 hzm with hzm | hzm
  ·rcases List.mem_append.1 hzm with hzm | hzm
   ·exact hsc z (List.mem_of_mem_take hzm)
   ·exact ⟨g1 z hzm, g2 z hzm⟩
  ·exact hsc z (List.mem_of_mem_drop hzm)
 refine ⟨h1, by simp only [List.length_append, List.length_drop, hkl]; omega, _, (0, 0), setRow_heap w _ cur _ tt _ h3, fun k' e' hk' j' x' hj' => ?_, fun _ => ⟨rfl, hoff, by simp at hfit ⊢; omega, hcm⟩⟩
 have hsp := splice_get els k new k' oMg
 rw [hsp] at hk'
 have hget := splice_get cur.toList (k * sz) news (k' * sz + j') (by simpa using hfit)
 have hj'l : j' < sz := by
  have hlen : e'.length = sz := by
   split at hk'
   ·exact (hsc e' (List.mem_of_getElem? hk')).1
   ·split at hk'
    ·exact g1 e' (List.mem_of_getElem? hk')
    ·exact (hsc e' (List.mem_of_getElem? hk')).1
  have := getElem?_lt hj'
  omega
 rw [hoff, Nat.zero_add, List.getElem?_toArray]
 rw [hcl] at hget ⊢
 rw [hget]
 by_cases c1 : k' < k
 ·rw [if_pos c1] at hk'
  have hap := mul_apart (j := j') (j' := 0) (sz := sz) c1 hj'l
  rw [if_pos oMg]
  obtain ⟨z, hz1, hz2⟩ := h4 k' e' hk' j' x' hj'
  rw [hoff, Nat.zero_add] at hz1
  exact ⟨z, by rw [Array.getElem?_toList]; exact hz1, hz2⟩
 ·rw [if_neg c1] at hk'
  have c1' : k * sz ≤ k' * sz := Nat.mul_le_mul_right _ oMg
  rw [if_neg oMg]
  by_cases c2 : k' < k + new.length
  ·rw [if_pos c2] at hk'
   have hap := mul_apart (j := j') (j' := 0) (sz := sz) c2 hj'l
   rw [Nat.add_mul] at hap
   rw [if_pos oMg]
   have hfg := flat_get _ g1 (k' - k) j' e' x' hk' hj'
   obtain ⟨z, hz1, hz2⟩ := relL_get g3 _ _ hfg
   refine ⟨z, ?_, hz2⟩
   have hidx : k' * sz + j' - k * sz = (k' - k) * sz + j' := by rw [Nat.sub_mul]; omega
   rw [hidx]
   exact hz1
  ·rw [if_neg c2] at hk'
   have c2' : (k + new.length) * sz ≤ k' * sz := Nat.mul_le_mul_right _ oMg
   rw [Nat.add_mul] at c2'
   rw [if_neg oMg]
   obtain ⟨z, hz1, hz2⟩ := h4 k' e' hk' j' x' hj'
   rw [hoff, Nat.zero_add] at hz1
   exact ⟨z, by rw [Array.getElem?_toList]; exact hz1, hz2⟩
theorem runK_appendIn {t e n0 m0 i k : Nat} {v : Value} {ty : TypeId} {ad2 : Addr} {c2 : Nat} (hs : Sim B w0 ι H w) (hv : AC.rel ι (.sl (some (i, k)) n0) v) (he : elemT P t = some e) (hinfo : (P.info? e).isSome = true)
  {els new : List (List AC)} (h1 : ownA P H e (some (i, k)) n0 els) (hsrc : Src P w ι H.length ad2 e m0 new) (hfit0 : n0 + m0 ≤ els.length)
  (hK : K (.c (.sl (some (i, k)) (n0 + m0))) (H.set i (.row e (szT P e) (els.take n0 ++ new ++ els.drop (n0 + m0)) true))) :
  RunK P B w0 ι H.length K (Builtin.append_ #[t, t] ty #[v, .slice (some ad2) m0 c2]) w := by
 obtain ⟨rfl, hi, _⟩ := h1
 dsimp only at hi
 obtain ⟨ad, rfl, hcap, had⟩ := hv
 obtain ⟨g1, g2, g4, news, g3, g5⟩ := hsrc
 obtain ⟨q1, q2, cur, fr, q3, q4, q5⟩ := hs.obj i _ hi
 obtain ⟨rfl, hoff, hcs, hcm⟩ := q5 rfl
 have hat : ad = ⟨(ι i).block, 0, none⟩ := by rw [had (.inr rfl)]; simp [Loc.at, hoff]
 subst hat
 obtain ⟨inf, hinf⟩ := Option.isSome_iff_exists.1 hinfo
 have hisz : inf.size = szT P e := by simp [szT, hinf]
 have hnl : news.length = m0 * szT P e := by rw [← relL_len g3, flat_len _ g1, g4]
 have hone : ∀ z ∈ news, z.oneCell' = true := by
  intro z hzm
  obtain ⟨j, hj⟩ := List.getElem?_of_mem hzm
  have hjl := getElem?_lt hj
  rw [← relL_len g3] at hjl
  obtain ⟨z', hz1, hz2⟩ := relL_get g3 j _ (List.getElem?_eq_getElem hjl)
  rw [hj] at hz1
  injection hz1 with hz1
  subst hz1
  exact AC.rel_one hz2
 have hfit : n0 * szT P e + news.length ≤ cur.size := by
  rw [hnl, hcs, ← Nat.add_mul]
  exact Nat.mul_le_mul_right _ oMg
 have hset := sim_splice hs hi q3 g1 g2 g3 (k := n0) oMg
 have hrun := run_append_room (P := P) w t ty e inf (elemT_und he) hinf (ι i).block n0 ((ι i).cap - 0) cur q3 ad2 m0 c2 news (by rw [hisz]; exact hnl) g5 hone oMg (by rw [hisz]; exact hfit)
 rw [hisz] at hrun
 rw [g4] at hset
 refine ⟨_, _, ι, .c (.sl (some (i, 0)) (n0 + m0)), _, hrun, Agree.refl _ _, by simp, hset, ?_, ?_, hK⟩
 ·exact ⟨_, rfl, by omega, fun _ => by simp [Loc.at, hoff]⟩
 ·show i < _
  rw [List.length_set]
  exact getElem?_lt hi
theorem runK_tail {s : Sem Value} {e n0 m0 : Nat} {r : Option (Nat × Nat)} {v v' : Value} {w' : World} {els new : List (List AC)} {xs news : List Value} (hs : Sim B w0 ι H w) (hv : AC.rel ι (.sl r n0) v) (h1 : ownA P H e r n0 els)
  (hx1 : relL ι (els.take n0).flatten xs) (hx3 : ∀ x ∈ els.take n0, x.length = szT P e) (hx4 : ∀ x ∈ els.take n0, ∀ y ∈ x, y.ok H.length) (hx5 : (els.take n0).length = n0)
  (hnewsz : ∀ x ∈ new, x.length = szT P e) (hnewok : ∀ x ∈ new, ∀ y ∈ x, y.ok H.length) (hnl : new.length = m0) (hnr : relL ι new.flatten news) (hm : 0 < m0)
  (hrun : s.run P w = .ok v' w') (hown' : w'.ownsRow (baseOf r w.heap.size) e (szT P e) v' (n0 + m0) (xs ++ news)) (hg : w.grownBy w' v.ownBlock) (hat : v'.ownBlock = v.ownBlock ∨ v'.ownBlock = some w.heap.size)
  (hK : K (.c (.sl (some (H.length, 0)) (n0 + m0))) (killA r H ++ [.row e (szT P e) (els.take n0 ++ new) true])) : RunK P B w0 ι H.length K s w := by
 -- the heap without the elder row
 have hH : ∃ Hd : Hp, killA r H = Hd ∧ Hd.length = H.length ∧ Sim B w0 ι Hd w ∧ (∀ b, v.ownBlock = some b → ¬ B b ∧ (∀ o, ι.fz b o = none) ∧ ∀ (i : Nat) (o : AObj), Hd[i]? = some o → o.live = true → (ι i).block ≠ b) := by
  cases r with
  | none =>
   obtain ⟨_, rfl⟩ := hv
   exact ⟨H, rfl, rfl, hs, fun b hb => by simp [Value.ownBlock] at hb⟩
  | some p =>
   obtain ⟨i, k⟩ := p
   obtain ⟨rfl, hi, hle⟩ := h1
   obtain ⟨ad, rfl, h7, h8⟩ := hv
   have had := h8 (.inr rfl)
   refine ⟨H.set i .dead, rfl, by simp, hs.dead hi rfl, fun b hb => ?_⟩
   simp only [Value.ownBlock, Option.some.injEq] at hb
   subst hb
   rw [had]
   refine ⟨hs.base i _ hi rfl, hs.apart i _ hi rfl, fun j o hj hl => ?_⟩
   by_cases e : i = j
   ·subst e
    rw [List.getElem?_set_self (getElem?_lt hi)] at hj
    injection hj with hj; subst hj; simp [AObj.live] at hl
   ·rw [List.getElem?_set_ne e] at hj
    exact Ne.symm (hs.sep i j _ o e hi rfl hj hl)
 obtain ⟨Hd, hHd, hHl, hsd, hHb⟩ := hH
 have hsd' : Sim B w0 ι Hd w' := hsd.grownRow hg hHb
 have hcs : ((els.take n0 ++ new).flatten).length = (xs ++ news).length := by
  rw [List.flatten_append, relL_len (relL_append hx1 hnr)]
 rcases hown'.2 with ⟨_, h0⟩ | ⟨g, cap, cur, hv', hbg, hgc, hnc', hcm, hcsz, htk⟩
 ·omega
 have hgB : ¬ B g ∧ (∀ o, ι.fz g o = none) ∧ ∀ (i : Nat) (o : AObj), Hd[i]? = some o → o.live = true → (ι i).block ≠ g := by
  rw [hv'] at hat
  simp only [Value.ownBlock, Option.some.injEq] at hat
  rcases hat with h0 | h0
  ·exact hHb g h0.symm
  ·rw [h0]
   refine ⟨fun hk => by have := hs.big _ hk; omega, fun o => hs.fz_new lRf o, fun i o hi hl => ?_⟩
   have := AObj.holds_lt hl (hsd.obj i o hi)
   omega
 have hall : ∀ x ∈ els.take n0 ++ new, x.length = szT P e ∧ ∀ y ∈ x, y.ok H.length := by
  intro x hx
  rcases List.mem_append.1 hx with hx | hx
  ·exact ⟨hx3 x hx, hx4 x hx⟩
  ·exact ⟨hnewsz x hx, hnewok x hx⟩
 have hlen2 : (els.take n0 ++ new).length = n0 + m0 := by rw [List.length_append, hx5, hnl]
 have hrel2 : relL ι (els.take n0 ++ new).flatten (xs ++ news) := by rw [List.flatten_append]; exact relL_append hx1 hnr
 have hcell2 : ∀ (k : Nat) (x : List AC), (els.take n0 ++ new)[k]? = some x → ∀ (j : Nat) (y : AC), x[j]? = some y → ∃ u, cur[0 + (k * szT P e + j)]? = some u ∧ y.rel (upd ι Hd.length ⟨g, 0, szT P e, cap⟩) u := by
  intro k x hk j y hj
  obtain ⟨u, h7, h8⟩ := relL_get hrel2 (k * szT P e + j) y (flat_get _ (fun x hx => (hall x hx).1) k j x y hk hj)
  refine ⟨u, ?_, AC.rel_agree (upd_agree ι Hd.length _) (by rw [hHl]; exact (hall x (List.mem_of_getElem? hk)).2 y (List.mem_of_getElem? hj)) h8⟩
  rw [← htk, List.getElem?_take] at h7
  split at h7
  ·rw [Nat.zero_add]; simpa using h7
  ·cases h7
 have hfin := hsd'.add (.row e (szT P e) (els.take n0 ++ new) true) ⟨g, 0, szT P e, cap⟩ hgB.1 (fun _ => hgB.2.1) hgB.2.2 (by rw [hHl]; exact hall)
  ⟨rfl, by rw [hlen2]; exact hnc', cur, (0, 0), hgc, hcell2, fun _ => ⟨rfl, rfl, hcsz, hcm⟩⟩
 rw [hHd] at hK
 refine ⟨v', w', _, _, _, hrun, by rw [← hHl]; exact upd_agree _ _ _, by simp [hHl], hfin, ?_, ?_, hK⟩
 ·rw [hv', ← hHl]
  exact ⟨⟨g, 0, none⟩, by rw [upd_same]; simp, by rw [upd_same]; simpa using hnc', fun _ => by rw [upd_same]; simp [Loc.at]⟩
 ·show H.length < _
  simp [hHl]
theorem runK_append {t e n0 m0 : Nat} {r : Option (Nat × Nat)} {v : Value} {ty : TypeId} {ad2 : Addr} {c2 : Nat} (hs : Sim B w0 ι H w) (hv : AC.rel ι (.sl r n0) v) (ho : (AC.sl r n0).ok H.length) (he : elemT P t = some e) (hzero : (zeroT P e).map (·.length) = some (szT P e))
  {els new : List (List AC)} (h1 : ownA P H e r n0 els) (hsrc : Src P w ι H.length ad2 e m0 new)
  (hm : 0 < m0) (hz : 0 < szT P e) (hby : (n0 + m0) * P.bytesOf e ≤ 140737488355328) (h63 : n0 + m0 ≤ 9223372036854775807) (hK : K (.c (.sl (some (H.length, 0)) (n0 + m0))) (killA r H ++ [.row e (szT P e) (els.take n0 ++ new) true])) :
  RunK P B w0 ι H.length K (Builtin.append_ #[t, t] ty #[v, .slice (some ad2) m0 c2]) w := by
 obtain ⟨z, hz1, hzl⟩ := Option.map_eq_some_iff.1 hzero
 obtain ⟨zv, hzi, hzr, hzo⟩ := zeroT_rel hz1 ι
 obtain ⟨inf, hinf⟩ := Option.isSome_iff_exists.1 (zero_info (P := P) (e := e) (by rw [hz1]; rfl))
 have hzero' : inf.zero = some zv := by rw [hinf] at hzi; simpa using hzi
 have hsz : inf.size = szT P e := by simp [szT, hinf]
 have hbt : inf.bytes = P.bytesOf e := by simp [Program.bytesOf, hinf]
 obtain ⟨hnewsz, hnewok, hnl, news, hnr, hnc⟩ := hsrc
 have hflat : ∀ l : List (List AC), (∀ x ∈ l, x.length = szT P e) → l.flatten.length = l.length * szT P e := fun l hl => flat_len l hl
 have hnlen : news.length = m0 * szT P e := by rw [← relL_len hnr, hflat _ hnewsz, hnl]
 have hone : ∀ {cs : List AC} {vs : List Value}, relL ι cs vs → ∀ u ∈ vs, u.oneCell' = true := by
  intro cs vs hr u hu
  obtain ⟨q, hq⟩ := List.getElem?_of_mem hu
  have hq' : q < cs.length := by rw [relL_len hr]; exact getElem?_lt hq
  obtain ⟨u', h6, h7⟩ := relL_get hr q cs[q] (by simp [hq'])
  rw [hq] at h6; injection h6 with h6; subst h6
  exact AC.rel_one h7
 -- the row
 have hrow : ∃ xs, relL ι (els.take n0).flatten xs ∧ w.ownsRow (baseOf r w.heap.size) e (szT P e) v n0 xs ∧ (∀ x ∈ els.take n0, x.length = szT P e) ∧ (∀ x ∈ els.take n0, ∀ y ∈ x, y.ok H.length) ∧ (els.take n0).length = n0 := by
  cases r with
  | none =>
   obtain ⟨rfl, rfl⟩ := h1
   obtain ⟨_, rfl⟩ := hv
   exact ⟨[], by simp [relL], ⟨by simp, .inl ⟨rfl, rfl⟩⟩, by simp, by simp, by simp⟩
  | some p =>
   obtain ⟨i, k⟩ := p
   obtain ⟨rfl, hi, hle⟩ := h1
   obtain ⟨ad, rfl, h7, h8⟩ := hv
   have had := h8 (.inr rfl)
   obtain ⟨hL, hcap, cur, fr, hcur, hcells, hown⟩ := hs.obj i _ hi
   obtain ⟨rfl, hoff, hcs, hcm⟩ := hown rfl
   have hsc := hs.scope i _ hi
   have hsz' : ∀ x ∈ els.take n0, x.length = szT P e := fun x hx => (hsc x (List.mem_of_mem_take hx)).1
   have hln : (els.take n0).length = n0 := by rw [List.length_take]; omega
   have hfl : (els.take n0).flatten.length = n0 * szT P e := by rw [hflat _ hsz', hln]
   obtain ⟨xs, hx1, hx2⟩ := relL_build (els.take n0).flatten (fun j => cur[j]?) (fun j x hx => by
    have hjl := getElem?_lt hx
    rw [hfl] at hjl
    have hq : j / szT P e < n0 := Nat.div_lt_of_lt_mul (by rw [Nat.mul_comm]; exact hjl)
    have hr' : j % szT P e < szT P e := Nat.mod_lt _ hz
    have hjq : j / szT P e * szT P e + j % szT P e = j := by rw [Nat.mul_comm]; exact Nat.div_add_mod j _
    have hx1 : (els.take n0)[j / szT P e]? = some (els[j / szT P e]'oMg) := by
     rw [List.getElem?_take, if_pos hq, List.getElem?_eq_getElem oMg]
    have hx2 : (els[j / szT P e]'oMg).length = szT P e := (hsc _ (List.getElem_mem _)).1
    have hx3 := flat_get _ hsz' (j / szT P e) (j % szT P e) _ ((els[j / szT P e]'oMg)[j % szT P e]'oMg) hx1 (List.getElem?_eq_getElem oMg)
    rw [hjq, hx] at hx3
    injection hx3 with hx3
    obtain ⟨u, hu1, hu2⟩ := hcells (j / szT P e) _ (List.getElem?_eq_getElem oMg) (j % szT P e) _ (List.getElem?_eq_getElem oMg)
    rw [hoff, Nat.zero_add, hjq] at hu1
    exact ⟨u, hu1, by rw [hx3]; exact hu2⟩)
   have hxl : xs.length = n0 * szT P e := by rw [← relL_len hx1, hfl]
   refine ⟨xs, hx1, ⟨hxl, .inr ⟨(ι i).block, (ι i).cap, cur, ?_, Nat.zero_le _, hcur, by omega, hcm, hcs, ?_⟩⟩, hsz', fun x hx => (hsc x (List.mem_of_mem_take hx)).2, hln⟩
   ·rw [had]; simp [Loc.at, hoff]
   ·have hfit : n0 * szT P e ≤ cur.size := by rw [hcs]; exact Nat.mul_le_mul_right _ oMg
    apply List.ext_getElem?
    intro j
    rw [List.getElem?_take]
    by_cases hj : j < n0 * szT P e
    ·rw [if_pos hj]
     have hxj := hx2 j xs[j] (List.getElem?_eq_getElem oMg)
     rw [List.getElem?_eq_getElem (show j < xs.length by omega), ← hxj]
     simp
    ·rw [if_neg hj, List.getElem?_eq_none oMg]
 obtain ⟨xs, hx1, hx2, hx3, hx4, hx5⟩ := hrow
 obtain ⟨v', w', hrun, hown', hg, _, hat⟩ := run_append_own_at (P := P) (w := w) (baseOf r w.heap.size) t ty e inf zv (szT P e) (P.bytesOf e) (elemT_und he) hinf hzero' hsz hbt (by rw [← Array.length_toList, ← relL_len hzr, hzl]) hz v n0 xs hx2 ad2 m0 c2 news hnlen hnc (hone hnr) (by simp only [maxLen]; omega) hby (by cases r <;> simp [baseOf])
 exact runK_tail hs hv h1 hx1 hx3 hx4 hx5 hnewsz hnewok hnl hnr hm hrun hown' hg hat hK
theorem runK_appStr {t u e n0 : Nat} {r : Option (Nat × Nat)} {v : Value} {ty : TypeId} {s : ByteArray} (hs : Sim B w0 ι H w) (hv : AC.rel ι (.sl r n0) v) (he : elemT P t = some e) (hu : P.underlying u = some .string) (hz8 : (P.info? e).bind (·.zero) = some (.int .u8 0)) (hsz1 : szT P e = 1) (hb1 : P.bytesOf e = 1)
  {els : List (List AC)} (h1 : ownA P H e r n0 els)
  (hm : 0 < s.size) (hby : n0 + s.size ≤ 140737488355328) (hK : K (.c (.sl (some (H.length, 0)) (n0 + s.size))) (killA r H ++ [.row e (szT P e) (els.take n0 ++ s.data.toList.map fun b => [AC.int .u8 b.toNat]) true])) :
  RunK P B w0 ι H.length K (Builtin.append_ #[t, u] ty #[v, .string s]) w := by
 obtain ⟨inf, hinf, hzero'⟩ := Option.bind_eq_some_iff.1 hz8
 have hsz : inf.size = szT P e := by simp [szT, hinf]
 have hbt : inf.bytes = P.bytesOf e := by simp [Program.bytesOf, hinf]
 have hz : 0 < szT P e := by omega
 -- the row
 have hrow : ∃ xs, relL ι (els.take n0).flatten xs ∧ w.ownsRow (baseOf r w.heap.size) e (szT P e) v n0 xs ∧ (∀ x ∈ els.take n0, x.length = szT P e) ∧ (∀ x ∈ els.take n0, ∀ y ∈ x, y.ok H.length) ∧ (els.take n0).length = n0 := by
  cases r with
  | none =>
   obtain ⟨rfl, rfl⟩ := h1
   obtain ⟨_, rfl⟩ := hv
   exact ⟨[], by simp [relL], ⟨by simp, .inl ⟨rfl, rfl⟩⟩, by simp, by simp, by simp⟩
  | some p =>
   obtain ⟨i, k⟩ := p
   obtain ⟨rfl, hi, hle⟩ := h1
   obtain ⟨ad, rfl, h7, h8⟩ := hv
   have had := h8 (.inr rfl)
   obtain ⟨hL, hcap, cur, fr, hcur, hcells, hown⟩ := hs.obj i _ hi
   obtain ⟨rfl, hoff, hcs, hcm⟩ := hown rfl
   have hsc := hs.scope i _ hi
   have hsz' : ∀ x ∈ els.take n0, x.length = szT P e := fun x hx => (hsc x (List.mem_of_mem_take hx)).1
   have hln : (els.take n0).length = n0 := by rw [List.length_take]; omega
   have hfl : (els.take n0).flatten.length = n0 * szT P e := by rw [flat_len _ hsz', hln]
   obtain ⟨xs, hx1, hx2⟩ := relL_build (els.take n0).flatten (fun j => cur[j]?) (fun j x hx => by
    have hjl := getElem?_lt hx
    rw [hfl] at hjl
    have hq : j / szT P e < n0 := Nat.div_lt_of_lt_mul (by rw [Nat.mul_comm]; exact hjl)
    have hr' : j % szT P e < szT P e := Nat.mod_lt _ hz
    have hjq : j / szT P e * szT P e + j % szT P e = j := by rw [Nat.mul_comm]; exact Nat.div_add_mod j _
    have hx1 : (els.take n0)[j / szT P e]? = some (els[j / szT P e]'oMg) := by
     rw [List.getElem?_take, if_pos hq, List.getElem?_eq_getElem oMg]
    have hx2 : (els[j / szT P e]'oMg).length = szT P e := (hsc _ (List.getElem_mem _)).1
    have hx3 := flat_get _ hsz' (j / szT P e) (j % szT P e) _ ((els[j / szT P e]'oMg)[j % szT P e]'oMg) hx1 (List.getElem?_eq_getElem oMg)
    rw [hjq, hx] at hx3
    injection hx3 with hx3
    obtain ⟨u, hu1, hu2⟩ := hcells (j / szT P e) _ (List.getElem?_eq_getElem oMg) (j % szT P e) _ (List.getElem?_eq_getElem oMg)
    rw [hoff, Nat.zero_add, hjq] at hu1
    exact ⟨u, hu1, by rw [hx3]; exact hu2⟩)
   have hxl : xs.length = n0 * szT P e := by rw [← relL_len hx1, hfl]
   refine ⟨xs, hx1, ⟨hxl, .inr ⟨(ι i).block, (ι i).cap, cur, ?_, Nat.zero_le _, hcur, by omega, hcm, hcs, ?_⟩⟩, hsz', fun x hx => (hsc x (List.mem_of_mem_take hx)).2, hln⟩
   ·rw [had]; simp [Loc.at, hoff]
   ·have hfit : n0 * szT P e ≤ cur.size := by rw [hcs]; exact Nat.mul_le_mul_right _ oMg
    apply List.ext_getElem?
    intro j
    rw [List.getElem?_take]
    by_cases hj : j < n0 * szT P e
    ·rw [if_pos hj]
     have hxj := hx2 j xs[j] (List.getElem?_eq_getElem oMg)
     rw [List.getElem?_eq_getElem (show j < xs.length by omega), ← hxj]
     simp
    ·rw [if_neg hj, List.getElem?_eq_none oMg]
 obtain ⟨xs, hx1, hx2, hx3, hx4, hx5⟩ := hrow
 have hbase : baseOf r w.heap.size ≤ w.heap.size := by cases r <;> simp [baseOf]
 rw [hsz1] at hx2
 obtain ⟨v', w', hrun, hown', hg, _⟩ := Lib.run_append_own_string (P := P) w (baseOf r w.heap.size) t u ty e inf (elemT_und he) hu hinf hzero' (hsz.trans hsz1) (hbt.trans hb1) v n0 xs hx2 s (by simp only [maxLen]; omega) hby hbase
 have hat : v'.ownBlock = v.ownBlock ∨ v'.ownBlock = some w.heap.size := by
  cases r with
  | none =>
   obtain ⟨rfl, rfl⟩ := hv
   have h2 := run_append_nil_string (P := P) w t u ty e inf _ (elemT_und he) hu hinf hzero' s hm oMg (by rw [hbt, hb1]; omega)
   rw [hrun] at h2
   injection h2 with h2 _
   exact .inr (by rw [h2]; rfl)
  | some p =>
   obtain ⟨i, k⟩ := p
   obtain ⟨rfl, hi, hle⟩ := h1
   obtain ⟨ad, rfl, h7, h8⟩ := hv
   have had := h8 (.inr rfl)
   obtain ⟨hL, hcap, cur, fr, hcur, hcells, hown⟩ := hs.obj i _ hi
   obtain ⟨rfl, hoff, hcs, hcm⟩ := hown rfl
   subst had
   have e1 : (ι i).at 0 0 = ⟨(ι i).block, 0, none⟩ := by simp [Loc.at, hoff]
   rw [e1] at hrun ⊢
   rw [hsz1] at hcs
   by_cases hroom : n0 + s.size ≤ (ι i).cap - 0
   ·have h2 := Lib.run_append_room_string (P := P) w t u ty e inf (elemT_und he) hu hinf (hsz.trans hsz1) (ι i).block n0 ((ι i).cap - 0) cur hcur s hroom oMg
    rw [hrun] at h2
    injection h2 with h2 _
    exact .inl (by rw [h2]; rfl)
   ·have hxl : xs.length = n0 := by have := hx2.1; omega
    have h2 := Lib.run_append_grow_string (P := P) w t u ty e inf _ (elemT_und he) hu hinf hzero' ⟨(ι i).block, 0, none⟩ n0 ((ι i).cap - 0) xs (by rw [hsz, hsz1]; omega) (by
     rw [e1] at hx2
     exact hx2.cells (g := (ι i).block) rfl) s oMg oMg (by rw [hbt, hb1]; exact growslice_fits oMg oMg)
    rw [hrun] at h2
    injection h2 with h2 _
    exact .inr (by rw [h2]; rfl)
 have hbl : ∀ l : List UInt8, relL ι (l.map fun b => [AC.int .u8 b.toNat]).flatten (l.map fun b => Value.int .u8 b.toNat) := by
  intro l
  induction l with
  | nil => simp [relL]
  | cons b l ih => exact ⟨rfl, ih⟩
 exact runK_tail hs hv h1 hx1 hx3 hx4 hx5 (by intro x hx; simp only [List.mem_map] at hx; obtain ⟨b, _, rfl⟩ := hx; rw [hsz1]; rfl) (by intro x hx; simp only [List.mem_map] at hx; obtain ⟨b, _, rfl⟩ := hx; intro y hy; simp at hy; subst hy; trivial) (by rw [List.length_map]; exact Array.length_toList) (hbl _) hm hrun (by rw [hsz1]; exact hown') hg hat hK
end
end Go.Proofs.YtagoolooikpabaaGreatDoor
