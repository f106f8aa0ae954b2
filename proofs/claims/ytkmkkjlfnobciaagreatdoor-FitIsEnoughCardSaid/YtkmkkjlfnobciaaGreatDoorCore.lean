/- The walk's plain heap: values and objects as plain data, what it says of a world, and what each operation does to it. No condition. -/
import Derived.Calls
import Derived.Orders
import Derived.Below
import Derived.IntWalk
import Derived.Laws.Cells
import Derived.Laws.CopyRow
import Derived.Laws.AppendOwn
import Derived.Laws.Externs
namespace Go.Proofs.YtkmkkjlfnobciaaGreatDoor
open Go Go.RowKit
set_option linter.all false

/-! ### Plain values -/
inductive AC where
  | int (k : IntKind) (n : Int)
  | bool (b : Bool)
  | str (s : ByteArray)
  | ptr (r : Option (Nat × Nat × Nat))
  | sl (r : Option (Nat × Nat)) (n : Nat)
  | map (r : Option Nat)
  | nilf
  | fn (f : FuncId) (first caps : List (Nat × Nat × Nat))
  | lst (sz : Nat) (els : List (List AC))
  | fp (cs : List AC)
  | nili
  | ifc
inductive AV where
  | c (x : AC)
  | agg (cs : List AC)
  | tup (vs : List AV)
  | any
instance : Inhabited AC := ⟨.nilf⟩
instance : Inhabited AV := ⟨.any⟩
inductive AObj where
  | row (ty sz : Nat) (els : List (List AC)) (own : Bool)
  | map (kt vt : Nat) (es : List (AV × AV))
  | dead
structure Loc where
  block : Nat
  off : Nat
  sz : Nat
  cap : Nat
instance : Inhabited Loc := ⟨⟨0, 0, 0, 0⟩⟩
def Loc.at (L : Loc) (k j : Nat) : Addr := ⟨L.block, L.off + (k * L.sz + j), none⟩
/-- where the objects lie, and which cells never turn again -/
structure En where
  loc : Nat → Loc
  fz : Nat → Nat → Option Value
instance : CoeFun En (fun _ => Nat → Loc) := ⟨En.loc⟩
def ptrOf (ι : En) (p : Nat × Nat × Nat) : Value := .pointer (some ((ι p.1).at p.2.1 p.2.2))
/-! what is frozen is read whole -/
mutual
def AC.relZ (Z : Nat → Nat → Option Value) : AC → Value → Prop
  | .int k n, v => v = .int k n
  | .bool b, v => v = .bool b
  | .str s, v => v = .string s
  | .ptr none, v => v = .pointer none
  | .ptr (some _), _ => False
  | .sl none n, v => n = 0 ∧ v = .slice none 0 0
  | .sl (some _) _, _ => False
  | .map none, v => v = .map none
  | .map (some _), _ => False
  | .nilf, v => v = .nilFunc
  | .nili, v => v = .nilIface
  | .ifc, v => ∃ t u, v = .iface t u
  | .fn f fs cs, v => fs = [] ∧ cs = [] ∧ v = .func (.func f) #[] #[]
  | .lst sz els, v => ∃ p c, v = .slice p els.length c ∧ els.length ≤ c ∧ (∀ e ∈ els, e.length = sz) ∧ (p = none → els = [] ∧ c = 0) ∧ ∀ a, p = some a → (els = [] ∨ a.spot = none) ∧ relRows Z els a.block a.off sz
  | .fp cs, v => ∃ b o, v = .pointer (some ⟨b, o, none⟩) ∧ relCells Z cs b o
def relCells (Z : Nat → Nat → Option Value) : List AC → Nat → Nat → Prop
  | [], _, _ => True
  | x :: xs, b, o => (∃ u, Z b o = some u ∧ x.relZ Z u) ∧ relCells Z xs b (o + 1)
def relRows (Z : Nat → Nat → Option Value) : List (List AC) → Nat → Nat → Nat → Prop
  | [], _, _, _ => True
  | e :: es, b, o, sz => relCells Z e b o ∧ relRows Z es b (o + sz) sz
end
def AC.rel (ι : En) : AC → Value → Prop
  | .int k n, v => v = .int k n
  | .bool b, v => v = .bool b
  | .str s, v => v = .string s
  | .ptr none, v => v = .pointer none
  | .ptr (some p), v => v = ptrOf ι p
  | .sl none n, v => n = 0 ∧ v = .slice none 0 0
  | .sl (some (i, k)) n, v => ∃ a, v = .slice (some a) n ((ι i).cap - k) ∧ k + n ≤ (ι i).cap ∧ ((ι i).cap - k ≠ 0 ∨ k = 0 → a = (ι i).at k 0)
  | .map none, v => v = .map none
  | .map (some i), v => v = .map (some (ι i).block)
  | .nilf, v => v = .nilFunc
  | .nili, v => v = .nilIface
  | .ifc, v => ∃ t u, v = .iface t u
  | .fn f fs cs, v => v = .func (.func f) (fs.map (ptrOf ι)).toArray (cs.map (ptrOf ι)).toArray
  | .lst sz els, v => AC.relZ ι.fz (.lst sz els) v
  | .fp cs, v => AC.relZ ι.fz (.fp cs) v
/-- all names are below n -/
def AC.ok (n : Nat) : AC → Prop
  | .ptr (some p) => p.1 < n
  | .sl (some (i, _)) _ => i < n
  | .map (some i) => i < n
  | .fn _ fs cs => (∀ p ∈ fs, p.1 < n) ∧ ∀ p ∈ cs, p.1 < n
  | _ => True
def relL (ι : En) : List AC → List Value → Prop
  | [], [] => True
  | x :: xs, v :: vs => x.rel ι v ∧ relL ι xs vs
  | _, _ => False
def AV.rel1 (ι : En) : AV → Value → Prop
  | .c x, v => x.rel ι v
  | .agg cs, v => ∃ vs : List Value, v = .agg vs.toArray ∧ relL ι cs vs
  | .any, _ => True
  | .tup _, _ => False
def rel1L (ι : En) : List AV → List Value → Prop
  | [], [] => True
  | x :: xs, v :: vs => x.rel1 ι v ∧ rel1L ι xs vs
  | _, _ => False
def AV.rel (ι : En) : AV → Value → Prop
  | .tup ts, v => ∃ vs : List Value, v = .tuple vs.toArray ∧ rel1L ι ts vs
  | x, v => x.rel1 ι v
def AV.ok1 (n : Nat) : AV → Prop
  | .c x => x.ok n
  | .agg cs => ∀ x ∈ cs, x.ok n
  | _ => True
def AV.ok (n : Nat) : AV → Prop
  | .tup ts => ∀ x ∈ ts, x.ok1 n
  | x => x.ok1 n

def ZLe (Z Z' : Nat → Nat → Option Value) : Prop := ∀ b o v, Z b o = some v → Z' b o = some v
structure Agree (n : Nat) (ι ι' : En) : Prop where
  loc : ∀ i, i < n → ι' i = ι i
  fz : ZLe ι.fz ι'.fz
theorem Agree.refl (n : Nat) (ι : En) : Agree n ι ι := ⟨fun _ _ => rfl, fun _ _ _ h => h⟩
theorem Agree.trans {n m : Nat} {a b c : En} (h : Agree n a b) (k : Agree m b c) (hm : n ≤ m) : Agree n a c := ⟨fun i hi => (k.loc i (by omega)).trans (h.loc i hi), fun x y v hv => k.fz x y v (h.fz x y v hv)⟩
theorem Agree.le {n m : Nat} {a b : En} (h : Agree m a b) (hm : n ≤ m) : Agree n a b := ⟨fun i hi => h.loc i (by omega), h.fz⟩
mutual
theorem AC.relZ_mono {Z Z' : Nat → Nat → Option Value} (h : ZLe Z Z') : ∀ (x : AC) (v : Value), x.relZ Z v → x.relZ Z' v
  | .int k n, v, hr => hr
  | .bool b, v, hr => hr
  | .str s, v, hr => hr
  | .ptr none, v, hr => hr
  | .ptr (some _), _, hr => hr
  | .sl none n, v, hr => hr
  | .sl (some _) _, _, hr => hr
  | .map none, v, hr => hr
  | .map (some _), _, hr => hr
  | .nilf, v, hr => hr
  | .nili, v, hr => hr
  | .ifc, v, hr => hr
  | .fn f fs cs, v, hr => hr
  | .lst sz els, v, hr => by
    simp only [AC.relZ] at hr ⊢
    obtain ⟨p, c, h1, h2, h3, h4, h5⟩ := hr
    exact ⟨p, c, h1, h2, h3, h4, fun a ha => ⟨(h5 a ha).1, relRows_mono h els _ _ _ (h5 a ha).2⟩⟩
  | .fp cs, v, hr => by
    simp only [AC.relZ] at hr ⊢
    obtain ⟨b, o, h1, h2⟩ := hr
    exact ⟨b, o, h1, relCells_mono h cs _ _ h2⟩
theorem relCells_mono {Z Z' : Nat → Nat → Option Value} (h : ZLe Z Z') : ∀ (xs : List AC) (b o : Nat), relCells Z xs b o → relCells Z' xs b o
  | [], _, _, _ => trivial
  | x :: xs, b, o, hr => by
    simp only [relCells] at hr ⊢
    obtain ⟨⟨u, h1, h2⟩, h3⟩ := hr
    exact ⟨⟨u, h _ _ _ h1, AC.relZ_mono h x u h2⟩, relCells_mono h xs _ _ h3⟩
theorem relRows_mono {Z Z' : Nat → Nat → Option Value} (h : ZLe Z Z') : ∀ (es : List (List AC)) (b o sz : Nat), relRows Z es b o sz → relRows Z' es b o sz
  | [], _, _, _, _ => trivial
  | e :: es, b, o, sz, hr => by
    simp only [relRows] at hr ⊢
    exact ⟨relCells_mono h e _ _ hr.1, relRows_mono h es _ _ _ hr.2⟩
end
theorem relCells_get {Z : Nat → Nat → Option Value} : ∀ {xs : List AC} {b o : Nat}, relCells Z xs b o → ∀ (j : Nat) (x : AC), xs[j]? = some x → ∃ u, Z b (o + j) = some u ∧ x.relZ Z u
  | [], _, _, _, j, x, h => by simp at h
  | y :: xs, b, o, hr, 0, x, h => by
    simp at h; subst h
    simp only [relCells] at hr
    exact hr.1
  | y :: xs, b, o, hr, j + 1, x, h => by
    simp at h
    simp only [relCells] at hr
    have := relCells_get hr.2 j x h
    rwa [Nat.add_assoc, Nat.add_comm 1 j] at this
theorem relCells_of {Z : Nat → Nat → Option Value} : ∀ {xs : List AC} {b o : Nat}, (∀ (j : Nat) (x : AC), xs[j]? = some x → ∃ u, Z b (o + j) = some u ∧ x.relZ Z u) → relCells Z xs b o
  | [], _, _, _ => by simp [relCells]
  | y :: xs, b, o, h => by
    simp only [relCells]
    exact ⟨h 0 y rfl, relCells_of fun j x hj => by
      have := h (j + 1) x (by simpa using hj)
      rwa [Nat.add_comm j 1, ← Nat.add_assoc] at this⟩
theorem relCells_drop {Z : Nat → Nat → Option Value} {xs : List AC} {b o : Nat} (h : relCells Z xs b o) (k : Nat) : relCells Z (xs.drop k) b (o + k) :=
  relCells_of fun j x hj => by
    rw [List.getElem?_drop] at hj
    have := relCells_get h (k + j) x hj
    rwa [← Nat.add_assoc] at this
theorem relRows_get {Z : Nat → Nat → Option Value} : ∀ {es : List (List AC)} {b o sz : Nat}, relRows Z es b o sz → ∀ (k : Nat) (e : List AC), es[k]? = some e → relCells Z e b (o + k * sz)
  | [], _, _, _, _, k, e, h => by simp at h
  | x :: es, b, o, sz, hr, 0, e, h => by
    simp at h; subst h
    simp only [relRows] at hr
    simpa using hr.1
  | x :: es, b, o, sz, hr, k + 1, e, h => by
    simp at h
    simp only [relRows] at hr
    have := relRows_get hr.2 k e h
    rwa [Nat.add_mul, Nat.one_mul, Nat.add_comm (k * sz) sz, ← Nat.add_assoc]
theorem relRows_of {Z : Nat → Nat → Option Value} : ∀ {es : List (List AC)} {b o sz : Nat}, (∀ (k : Nat) (e : List AC), es[k]? = some e → relCells Z e b (o + k * sz)) → relRows Z es b o sz
  | [], _, _, _, _ => by simp [relRows]
  | x :: es, b, o, sz, h => by
    simp only [relRows]
    refine ⟨by simpa using h 0 x rfl, relRows_of fun k e hk => ?_⟩
    have := h (k + 1) e (by simpa using hk)
    rwa [Nat.add_mul, Nat.one_mul, Nat.add_comm (k * sz) sz, ← Nat.add_assoc] at this
theorem ptrOf_agree {n : Nat} {ι ι' : En} (h : Agree n ι ι') {p : Nat × Nat × Nat} (hp : p.1 < n) : ptrOf ι' p = ptrOf ι p := by
  unfold ptrOf; rw [h.loc _ hp]
theorem AC.rel_agree {n : Nat} {ι ι' : En} (h : Agree n ι ι') {x : AC} {v : Value} (hx : x.ok n) (hr : x.rel ι v) : x.rel ι' v := by
  cases x with
  | int k m => exact hr
  | bool b => exact hr
  | str s => exact hr
  | nilf => exact hr
  | nili => exact hr
  | ifc => exact hr
  | ptr r =>
    cases r with
    | none => exact hr
    | some p => simp only [AC.rel, AC.ok] at *; rw [ptrOf_agree h hx]; exact hr
  | sl r m =>
    cases r with
    | none => exact hr
    | some p => obtain ⟨i, k⟩ := p; simp only [AC.rel, AC.ok] at *; rw [h.loc i hx]; exact hr
  | lst sz els => exact AC.relZ_mono h.fz (.lst sz els) v hr
  | fp cs => exact AC.relZ_mono h.fz (.fp cs) v hr
  | map r =>
    cases r with
    | none => exact hr
    | some i => simp only [AC.rel, AC.ok] at *; rw [h.loc i hx]; exact hr
  | fn f fs cs =>
    simp only [AC.rel, AC.ok] at *
    rw [hr, List.map_congr_left (fun p hp => ptrOf_agree h (hx.1 p hp)), List.map_congr_left (fun p hp => ptrOf_agree h (hx.2 p hp))]
theorem relL_agree {n : Nat} {ι ι' : En} (h : Agree n ι ι') : ∀ {xs : List AC} {vs : List Value}, (∀ x ∈ xs, x.ok n) → relL ι xs vs → relL ι' xs vs
  | [], [], _, _ => trivial
  | [], _ :: _, _, hr => hr
  | _ :: _, [], _, hr => hr
  | x :: xs, v :: vs, hx, hr => ⟨AC.rel_agree h (hx x (by simp)) hr.1, relL_agree h (fun y hy => hx y (by simp [hy])) hr.2⟩
theorem AV.rel1_agree {n : Nat} {ι ι' : En} (h : Agree n ι ι') {x : AV} {v : Value} (hx : x.ok1 n) (hr : x.rel1 ι v) : x.rel1 ι' v := by
  cases x with
  | c x => exact AC.rel_agree h hx hr
  | agg cs => obtain ⟨vs, rfl, h2⟩ := hr; exact ⟨vs, rfl, relL_agree h hx h2⟩
  | any => trivial
  | tup ts => exact hr
theorem rel1L_agree {n : Nat} {ι ι' : En} (h : Agree n ι ι') : ∀ {xs : List AV} {vs : List Value}, (∀ x ∈ xs, x.ok1 n) → rel1L ι xs vs → rel1L ι' xs vs
  | [], [], _, _ => trivial
  | [], _ :: _, _, hr => hr
  | _ :: _, [], _, hr => hr
  | x :: xs, v :: vs, hx, hr => ⟨AV.rel1_agree h (hx x (by simp)) hr.1, rel1L_agree h (fun y hy => hx y (by simp [hy])) hr.2⟩
theorem AV.rel_agree {n : Nat} {ι ι' : En} (h : Agree n ι ι') {x : AV} {v : Value} (hx : x.ok n) (hr : x.rel ι v) : x.rel ι' v := by
  cases x with
  | c x => exact AC.rel_agree h hx hr
  | agg cs => exact AV.rel1_agree (x := .agg cs) h hx hr
  | any => trivial
  | tup ts => obtain ⟨vs, rfl, h2⟩ := hr; exact ⟨vs, rfl, rel1L_agree h hx h2⟩
theorem AC.ok_mono {n m : Nat} (h : n ≤ m) {x : AC} (hx : x.ok n) : x.ok m := by
  cases x with
  | ptr r => cases r with | none => trivial | some p => exact Nat.lt_of_lt_of_le hx h
  | sl r k => cases r with | none => trivial | some p => exact Nat.lt_of_lt_of_le (show p.1 < n from hx) h
  | map r => cases r with | none => trivial | some p => exact Nat.lt_of_lt_of_le hx h
  | fn f fs cs => exact ⟨fun p hp => Nat.lt_of_lt_of_le (hx.1 p hp) h, fun p hp => Nat.lt_of_lt_of_le (hx.2 p hp) h⟩
  | _ => trivial
theorem AV.ok1_mono {n m : Nat} (h : n ≤ m) {x : AV} (hx : x.ok1 n) : x.ok1 m := by
  cases x with
  | c x => exact AC.ok_mono h hx
  | agg cs => exact fun x hx' => AC.ok_mono h (hx x hx')
  | _ => trivial
theorem AV.ok_mono {n m : Nat} (h : n ≤ m) {x : AV} (hx : x.ok n) : x.ok m := by
  cases x with
  | c x => exact AC.ok_mono h hx
  | agg cs => exact fun x hx' => AC.ok_mono h (hx x hx')
  | any => trivial
  | tup ts => exact fun x hx' => AV.ok1_mono h (hx x hx')
theorem relL_len {ι : En} : ∀ {xs : List AC} {vs : List Value}, relL ι xs vs → xs.length = vs.length
  | [], [], _ => rfl
  | _ :: _, _ :: _, h => by simp [relL_len h.2]
theorem relL_get {ι : En} : ∀ {xs : List AC} {vs : List Value}, relL ι xs vs → ∀ (j : Nat) (x : AC), xs[j]? = some x → ∃ v, vs[j]? = some v ∧ x.rel ι v
  | [], [], _, j, x, h => by simp at h
  | x :: xs, v :: vs, hr, 0, y, h => ⟨v, rfl, by simp at h; subst h; exact hr.1⟩
  | x :: xs, v :: vs, hr, j + 1, y, h => by simp at h; exact relL_get hr.2 j y h
theorem relL_append {ι : En} : ∀ {xs ys : List AC} {vs us : List Value}, relL ι xs vs → relL ι ys us → relL ι (xs ++ ys) (vs ++ us)
  | [], _, [], _, _, h => h
  | _ :: _, _, _ :: _, _, h, k => ⟨h.1, relL_append h.2 k⟩
theorem relL_take {ι : En} : ∀ {xs : List AC} {vs : List Value} (n : Nat), relL ι xs vs → relL ι (xs.take n) (vs.take n)
  | [], [], n, _ => by simp [relL]
  | x :: xs, v :: vs, 0, h => by simp [relL]
  | x :: xs, v :: vs, n + 1, h => ⟨h.1, relL_take n h.2⟩
theorem relL_drop {ι : En} : ∀ {xs : List AC} {vs : List Value} (n : Nat), relL ι xs vs → relL ι (xs.drop n) (vs.drop n)
  | [], [], n, _ => by simp [relL]
  | x :: xs, v :: vs, 0, h => h
  | x :: xs, v :: vs, n + 1, h => relL_drop n h.2
theorem AC.rel_one {ι : En} {x : AC} {v : Value} (h : x.rel ι v) : v.oneCell' = true := by
  cases x with
  | ptr r => cases r <;> (simp only [AC.rel] at h; subst h; rfl)
  | sl r n =>
    cases r with
    | none => obtain ⟨_, rfl⟩ := h; rfl
    | some p => obtain ⟨a, rfl, _⟩ := h; rfl
  | map r => cases r <;> (simp only [AC.rel] at h; subst h; rfl)
  | lst sz els => simp only [AC.rel, AC.relZ] at h; obtain ⟨p, c, rfl, _⟩ := h; rfl
  | fp cs => simp only [AC.rel, AC.relZ] at h; obtain ⟨b, o, rfl, _⟩ := h; rfl
  | ifc => simp only [AC.rel] at h; obtain ⟨t, u, rfl⟩ := h; rfl
  | _ => simp only [AC.rel] at h; subst h; rfl
theorem AC.rel_of_relZ {ι : En} {x : AC} {v : Value} (h : x.relZ ι.fz v) : x.rel ι v := by
  cases x with
  | ptr r => cases r <;> first | exact h | (simp only [AC.relZ] at h)
  | sl r n => cases r <;> first | exact h | (simp only [AC.relZ] at h)
  | map r => cases r <;> first | exact h | (simp only [AC.relZ] at h)
  | fn f fs cs => simp only [AC.relZ] at h; obtain ⟨rfl, rfl, rfl⟩ := h; simp [AC.rel]
  | _ => exact h
/-- no names are in it -/
def AC.pure : AC → Bool
  | .ptr (some _) => false
  | .sl (some _) _ => false
  | .map (some _) => false
  | .fn _ fs cs => fs.isEmpty && cs.isEmpty
  | _ => true
theorem AC.relZ_of_rel {ι : En} {x : AC} {v : Value} (hp : x.pure = true) (h : x.rel ι v) : x.relZ ι.fz v := by
  cases x with
  | ptr r => cases r <;> first | exact h | (simp [AC.pure] at hp)
  | sl r n => cases r <;> first | exact h | (simp [AC.pure] at hp)
  | map r => cases r <;> first | exact h | (simp [AC.pure] at hp)
  | fn f fs cs =>
    simp only [AC.pure, Bool.and_eq_true, List.isEmpty_iff] at hp
    obtain ⟨rfl, rfl⟩ := hp
    simp only [AC.rel, AC.relZ] at h ⊢
    exact ⟨trivial, trivial, by simpa using h⟩
  | _ => exact h
theorem AC.ok_of_relZ {Z : Nat → Nat → Option Value} {x : AC} {v : Value} (h : x.relZ Z v) (n : Nat) : x.ok n := by
  cases x with
  | ptr r => cases r <;> first | trivial | (simp only [AC.relZ] at h)
  | sl r n => cases r <;> first | trivial | (simp only [AC.relZ] at h)
  | map r => cases r <;> first | trivial | (simp only [AC.relZ] at h)
  | fn f fs cs => simp only [AC.relZ] at h; obtain ⟨rfl, rfl, _⟩ := h; exact ⟨by simp, by simp⟩
  | _ => trivial
theorem AC.ok_of_pure {x : AC} (hp : x.pure = true) (n : Nat) : x.ok n := by
  cases x with
  | ptr r => cases r <;> first | trivial | (simp [AC.pure] at hp)
  | sl r n => cases r <;> first | trivial | (simp [AC.pure] at hp)
  | map r => cases r <;> first | trivial | (simp [AC.pure] at hp)
  | fn f fs cs =>
    simp only [AC.pure, Bool.and_eq_true, List.isEmpty_iff] at hp
    obtain ⟨rfl, rfl⟩ := hp
    exact ⟨by simp, by simp⟩
  | _ => trivial

/-! ### The heap -/
def AObj.okN (n : Nat) : AObj → Prop
  | .row _ sz els _ => ∀ e ∈ els, e.length = sz ∧ ∀ x ∈ e, x.ok n
  | .map _ _ es => ∀ p : AV × AV, p ∈ es → p.1.ok n ∧ p.2.ok n
  | .dead => True
def AObj.owned : AObj → Bool
  | .row _ _ _ own => own
  | .map _ _ _ => true
  | .dead => false
def AObj.live : AObj → Bool
  | .dead => false
  | _ => true
/-- what an object says of its block -/
def AObj.holds (ι : En) (w : World) (L : Loc) : AObj → Prop
  | .row ty sz els own => L.sz = sz ∧ els.length ≤ L.cap ∧ ∃ cur fr, w.heap[L.block]? = some (.cells cur ty fr) ∧
      (∀ (k : Nat) (e : List AC), els[k]? = some e → ∀ (j : Nat) (x : AC), e[j]? = some x → ∃ u, cur[L.off + (k * sz + j)]? = some u ∧ x.rel ι u) ∧
      (own = true → fr = (0, 0) ∧ L.off = 0 ∧ cur.size = L.cap * sz ∧ L.cap ≤ maxLen)
  | .map _ _ es => ∃ (entries : Array MapEntry) (clock : Nat), w.heap[L.block]? = some (.map entries clock) ∧ entries.size = es.length ∧
      ∀ (i : Nat) (p : AV × AV), es[i]? = some p → ∃ m, entries[i]? = some m ∧ p.1.rel ι m.key ∧ p.2.rel ι m.val
  | .dead => True
abbrev Hp := List AObj
abbrev Fr := Nat → AV
structure Sim (B : Nat) (w0 : World) (ι : En) (H : Hp) (w : World) : Prop where
  below : Below B w0 w
  big : B ≤ w.heap.size
  scope : ∀ (i : Nat) (o : AObj), H[i]? = some o → o.okN H.length
  obj : ∀ (i : Nat) (o : AObj), H[i]? = some o → o.holds ι w (ι i)
  sep : ∀ (i j : Nat) (o o' : AObj), i ≠ j → H[i]? = some o → o.owned = true → H[j]? = some o' → o'.live = true → (ι i).block ≠ (ι j).block
  base : ∀ (i : Nat) (o : AObj), H[i]? = some o → o.owned = true → B ≤ (ι i).block
  froz : ∀ (b o : Nat) (v : Value), ι.fz b o = some v → ∃ cur ty fr, w.heap[b]? = some (.cells cur ty fr) ∧ cur[o]? = some v
  apart : ∀ (i : Nat) (ob : AObj), H[i]? = some ob → ob.owned = true → ∀ o, ι.fz (ι i).block o = none
structure FOk (N : Nat) (ι : En) (n : Nat) (F : Fr) (a : Act) : Prop where
  size : a.tmps.size = N
  defers : a.defers = []
  rel : ∀ t, (F t).rel ι (a.tmps.getD t undef)
  scope : ∀ t, (F t).ok n
def Fr.put (F : Fr) (d : Option Tmp) (v : AV) : Fr :=
  match d with
  | some d => fun t => bif Nat.beq t d then v else F t
  | none => F

/-! ### Values of constants -/
def ofVal : Value → Option AC
  | .int k n => some (.int k n)
  | .bool b => some (.bool b)
  | .string s => some (.str s)
  | .pointer none => some (.ptr none)
  | .slice none 0 0 => some (.sl none 0)
  | .map none => some (.map none)
  | .nilFunc => some .nilf
  | .nilIface => some .nili
  | _ => none
theorem ofVal_rel {ι : En} {v : Value} {x : AC} (h : ofVal v = some x) : x.rel ι v := by
  unfold ofVal at h
  split at h <;> first | (cases h; done) | (cases h; first | rfl | exact ⟨rfl, rfl⟩)
theorem ofVal_ok {v : Value} {x : AC} (h : ofVal v = some x) (n : Nat) : x.ok n := by
  unfold ofVal at h
  split at h <;> first | (cases h; done) | (cases h; trivial)
def evC (F : Fr) : Operand → AV
  | .tmp t => F t
  | .const v => match ofVal v with | some x => .c x | none => .any
  | .func f => .c (.fn f [] [])
  | .global _ => .any
theorem evC_rel {N n : Nat} {ι : En} {F : Fr} {a : Act} (h : FOk N ι n F a) (x : Operand) : (evC F x).rel ι (a.eval x) := by
  cases x with
  | tmp t => exact h.rel t
  | const v =>
    show AV.rel ι (match ofVal v with | some x => AV.c x | none => AV.any) v
    cases hv : ofVal v with
    | none => trivial
    | some y => exact ofVal_rel hv
  | func f => show AC.rel ι (.fn f [] []) (.func (.func f) #[] #[]); rfl
  | global g => trivial
theorem evC_ok {N n : Nat} {ι : En} {F : Fr} {a : Act} (h : FOk N ι n F a) (x : Operand) : (evC F x).ok n := by
  cases x with
  | tmp t => exact h.scope t
  | const v =>
    show AV.ok n (match ofVal v with | some x => AV.c x | none => AV.any)
    cases hv : ofVal v with
    | none => trivial
    | some y => exact ofVal_ok hv n
  | func f => exact ⟨by simp, by simp⟩
  | global g => trivial

/-! ### Types -/
def szT (P : Program) (t : TypeId) : Nat := ((P.info? t).map (·.size)).getD 0
def aggT (P : Program) (t : TypeId) : Bool := match P.underlying t with | some (.struct _) | some (.array _ _) => true | _ => false
/-- the cells of the zero value -/
def zeroT (P : Program) (t : TypeId) : Option (List AC) :=
  match (P.info? t).bind (·.zero) with
  | some z => z.cells.toList.mapM ofVal
  | none => none
def fieldT (P : Program) (s : TypeId) (f : Nat) : Option (Nat × Nat) :=
  match P.underlying s with
  | some (.struct fs) => (fs[f]?).map fun x => (x.offset, szT P x.type)
  | _ => none
def elemT (P : Program) (t : TypeId) : Option Nat :=
  match P.underlying t with
  | some (.slice e) => some e
  | _ => none

/-! ### Calls -/
def argsRel (ι : En) (as : List AV) (vs : Array Value) : Prop := rel1L ι as vs.toList
def Done (B : Nat) (w0 : World) (ι : En) (n : Nat) (K : AV → Hp → Prop) (e : Ending) (w' : World) : Prop :=
  ∃ ι' v av H', e = .returned v ∧ Agree n ι ι' ∧ n ≤ H'.length ∧ Sim B w0 ι' H' w' ∧ AV.rel ι' av v ∧ av.ok H'.length ∧ K av H'
def ACalls (P : Program) (f : FuncId) (args : List AV) (H : Hp) (K : AV → Hp → Prop) : Prop :=
  ∀ B w0 ι w vs, Sim B w0 ι H w → argsRel ι args vs → (∀ x ∈ args, x.ok1 H.length) → Calls P f vs w (Done B w0 ι H.length K)
theorem ACalls.mono {P : Program} {f : FuncId} {args : List AV} {H : Hp} {K K' : AV → Hp → Prop} (h : ACalls P f args H K) (hk : ∀ v H', K v H' → K' v H') : ACalls P f args H K' :=
  fun B w0 ι w vs hs hr ho => (h B w0 ι w vs hs hr ho).mono fun _ _ ⟨ι', v, av, H', h1, h2, h3, h4, h5, h6, h7⟩ => ⟨ι', v, av, H', h1, h2, h3, h4, h5, h6, hk _ _ h7⟩
end Go.Proofs.YtkmkkjlfnobciaaGreatDoor
