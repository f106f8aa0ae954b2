/- The operations, one by one. No condition. -/
import Derived.Test.YtkmkkjlfnobciaaGreatDoorCoreMem
namespace Go.Proofs.YtkmkkjlfnobciaaGreatDoor
open Go Go.RowKit
set_option linter.all false

def AV.cells : AV → Option (List AC)
  | .c x => some [x]
  | .agg cs => some cs
  | _ => none
def ptrs (l : List (Nat × Nat × Nat)) : List AV := l.map fun p => .c (.ptr (some p))
def noTup : AV → Bool
  | .tup _ => false
  | _ => true
def entersB (P : Program) (f : FuncId) : Bool := (P.funcs[f]?).any fun fn => fn.body.isSome && fn.name != "runtime.NumGoroutine"

/-- a row that may be appended to -/
def ownA (P : Program) (H : Hp) (e : Nat) (r : Option (Nat × Nat)) (n : Nat) (els : List (List AC)) : Prop := match r with
  | none => n = 0 ∧ els = []
  | some p => p.2 = 0 ∧ H[p.1]? = some (.row e (szT P e) els true) ∧ n ≤ els.length
/-- what a slice of m elements holds -/
def srcA (P : Program) (H : Hp) (e : Nat) (r2 : Option (Nat × Nat)) (m : Nat) (new : List (List AC)) : Prop := match r2 with
  | none => False
  | some p => ∃ e' els2 own, H[p.1]? = some (.row e' (szT P e) els2 own) ∧ p.2 + m ≤ els2.length ∧ new = (els2.drop p.2).take m
/-- the row that an append takes over is gone -/
def killA (r : Option (Nat × Nat)) (H : Hp) : Hp := match r with | none => H | some p => H.set p.1 .dead
def baseOf (r : Option (Nat × Nat)) (n B : Nat) : Nat := match r with | none => n | some _ => B
def intT (P : Program) (t : TypeId) : Bool := match P.underlying t with | some (.int _) => true | _ => false
def intK (P : Program) (t : TypeId) : Option IntKind := match P.underlying t with | some (.int k) => some k | _ => none
def fieldK (P : Program) (s : TypeId) (f : Nat) : Option (Nat × Nat × Bool) := match P.underlying s with
  | some (.struct fs) => (match fs[f]? with
    | some x => if (P.info? x.type).isSome = true ∧ (P.underlying x.type).isSome = true then some (x.offset, szT P x.type, aggT P x.type) else none
    | none => none)
  | _ => none
/-! maps: keys are numbers, strings, truth values, or (as long as the map is empty) structs of such -/
def mapTs : List Nat := [195, 300, 301]
def isMapT (t : TypeId) : Bool := mapTs.contains t
def mapK (P : Program) (t : TypeId) : Option TypeId := match P.underlying t with | some (.map k _) => some k | _ => none
def mapE (P : Program) (t : TypeId) : Option TypeId := match P.underlying t with | some (.map _ e) => some e | _ => none
def flatT (P : Program) (t : TypeId) : Bool := match P.underlying t with | some (.int _) | some .string | some .bool => true | _ => false
def keyOk (P : Program) (kt : TypeId) (k : AV) : Bool := match P.underlying kt, k with
  | some (.struct fs), .agg cs => fs.all fun f => flatT P f.type && (P.info? f.type).isSome && decide (f.offset < cs.length)
  | _, _ => flatT P kt
/-- one key is the other -/
def keyEq : AV → AV → Option Bool
  | .c (.str a), .c (.str b) => some (decide (a.data.toList = b.data.toList))
  | .c (.int q a), .c (.int q' b) => if q = q' then some (decide (a = b)) else none
  | _, _ => none
def keyT (P : Program) (kt : TypeId) : AV → Bool
  | .c (.str _) => (match P.underlying kt with | some .string => true | _ => false)
  | .c (.int _ _) => (match P.underlying kt with | some (.int _) => true | _ => false)
  | _ => false
def findA (k : AV) : List (AV × AV) → Option (Option Nat)
  | [] => some none
  | p :: l => match keyEq k p.1 with
    | some true => some (some 0)
    | some false => (findA k l).map fun r => r.map (· + 1)
    | none => none
/-- a map's entries with one more, or one turned -/
def mapPut (P : Program) (kt : TypeId) (k v : AV) (es : List (AV × AV)) : Option (List (AV × AV)) := match es with
  | [] => some [(k, v)]
  | es => if keyT P kt k = true then (match findA k es with
    | some (some j) => some (es.set j (k, v))
    | some none => some (es ++ [(k, v)])
    | none => none) else none
def aPutM (kt vt : Nat) (i : Nat) (es : Option (List (AV × AV))) (H : Hp) (K : AV → Hp → Prop) : Prop := match es with
  | some es => K .any (H.set i (.map kt vt es))
  | none => False
def aMapUp2 (P : Program) (ob : Option AObj) (i : Nat) (kt : TypeId) (k v : AV) (H : Hp) (K : AV → Hp → Prop) : Prop := match ob with
  | some (.map a b es) => keyOk P kt k = true ∧ aPutM a b i (mapPut P kt k v es) H K
  | _ => False
def aMapUp (P : Program) (kt : Option TypeId) (m k v : AV) (H : Hp) (K : AV → Hp → Prop) : Prop := match m, kt with
  | .c (.map (some i)), some kt => aMapUp2 P H[i]? i kt k v H K
  | _, _ => False
/-- the zero value, whole -/
def zeroA (P : Program) (t : TypeId) : Option AV := match (P.info? t).bind (·.zero) with
  | some (.agg _) => (zeroT P t).map .agg
  | some v => (ofVal v).map .c
  | none => none
def mapGet (P : Program) (kt : TypeId) (k : AV) (z : Option AV) (es : List (AV × AV)) : Option (AV × Bool) := match es with
  | [] => z.map fun z => (z, false)
  | es => if keyT P kt k = true then (match findA k es with
    | some (some j) => (es[j]?).map fun p => (p.2, true)
    | some none => z.map fun z => (z, false)
    | none => none) else none
def aGetM (r : Option (AV × Bool)) (ok : Bool) (H : Hp) (K : AV → Hp → Prop) : Prop := match r with
  | some (v, b) => noTup v = true ∧ K (bif ok then .tup [v, .c (.bool b)] else v) H
  | none => False
def aLook2 (P : Program) (ob : Option AObj) (kt : TypeId) (z : Option AV) (k : AV) (ok : Bool) (H : Hp) (K : AV → Hp → Prop) : Prop := match ob with
  | some (.map _ _ es) => keyOk P kt k = true ∧ aGetM (mapGet P kt k z es) ok H K
  | _ => False
def aLook (P : Program) (kt : Option TypeId) (z : Option AV) (m k : AV) (ok : Bool) (H : Hp) (K : AV → Hp → Prop) : Prop := match m, kt with
  | .c (.map (some i)), some kt => aLook2 P H[i]? kt z k ok H K
  | .c (.map none), some kt => keyOk P kt k = true ∧ aGetM (z.map fun z => (z, false)) ok H K
  | _, _ => False
def aNewM (r : Bool) (H : Hp) (K : AV → Hp → Prop) : Prop := match r with
  | false => K (.c (.map (some H.length))) (H ++ [.map 0 0 []])
  | true => False
def aLenM (ob : Option AObj) (H : Hp) (K : AV → Hp → Prop) : Prop := match ob with
  | some (.map _ _ es) => K (.c (.int .i64 es.length)) H
  | _ => False
/-- the end of a row is cleared: it is not known any more -/
def aClr2 (ob : Option AObj) (i k n : Nat) (s : Nat) (z : Option Nat) (H : Hp) (K : AV → Hp → Prop) : Prop := match ob with
  | some (.row ty sz els true) => (s = sz ∧ z = some sz ∧ k + n = els.length) ∧ K (.tup []) (H.set i (.row ty sz (els.take k) true))
  | _ => False
def aClr (r : Option (Nat × Nat)) (n : Nat) (e : Option Nat) (s : Nat) (z : Option Nat) (H : Hp) (K : AV → Hp → Prop) : Prop := match n, e with
  | 0, some _ => K (.tup []) H
  | n + 1, some _ => (match r with | some p => aClr2 H[p.1]? p.1 p.2 (n + 1) s z H K | none => False)
  | _, none => False
def aBuiltin (P : Program) (b : Builtin) (ts : Array TypeId) (as : List AV) (H : Hp) (K : AV → Hp → Prop) : Prop :=
  match b, ts.toList, as with
  | .len, [t], [.c (.sl _ n)] => (elemT P t).isSome = true ∧ K (.c (.int .i64 n)) H
  | .len, [t], [.c (.lst _ els)] => (elemT P t).isSome = true ∧ K (.c (.int .i64 els.length)) H
  | .len, [t], [.c (.str s)] => P.underlying t = some .string ∧ K (.c (.int .i64 s.size)) H
  | .min, _, [.c (.int k x), .c (.int _ y)] => K (.c (.int k (if y < x then y else x))) H
  | .max, _, [.c (.int k x), .c (.int _ y)] => K (.c (.int k (if x < y then y else x))) H
  | .append, [t, t'], [.c (.sl r n), .c (.sl r2 m)] => t = t' ∧ (match elemT P t with
      | some e => (zeroT P e).map (·.length) = some (szT P e) ∧ (m = 0 → K (.c (.sl r n)) H) ∧ (0 < m → ∃ els new : List (List AC), ownA P H e r n els ∧ srcA P H e r2 m new ∧
          0 < szT P e ∧ (n + m) * P.bytesOf e ≤ 140737488355328 ∧ n + m ≤ 9223372036854775807 ∧
          K (.c (.sl (some (H.length, 0)) (n + m))) (killA r H ++ [.row e (szT P e) (els.take n ++ new) true]))
      | none => False)
  | .append, [t, t'], [.c (.sl r n), .c (.lst sz new)] => t = t' ∧ (match elemT P t with
      | some e => (zeroT P e).map (·.length) = some (szT P e) ∧ (new.length = 0 → K (.c (.sl r n)) H) ∧ (0 < new.length → ∃ els : List (List AC), ownA P H e r n els ∧ sz = szT P e ∧
          0 < szT P e ∧ (n + new.length) * P.bytesOf e ≤ 140737488355328 ∧ n + new.length ≤ 9223372036854775807 ∧
          K (.c (.sl (some (H.length, 0)) (n + new.length))) (killA r H ++ [.row e (szT P e) (els.take n ++ new) true]))
      | none => False)
  | .clear, [t], [.c (.sl r n)] => aClr r n (elemT P t) ((elemT P t).elim 0 (szT P)) ((elemT P t).bind fun e => (zeroT P e).map (·.length)) H K
  | .cap, [t], [.c (.sl r _)] => r = none ∧ (elemT P t).isSome = true ∧ K (.c (.int .i64 0)) H
  | .append, [t, t'], [.c (.sl r n), .c (.int _ m)] => r = none ∧ n = 0 ∧ intT P t' = true ∧ (match elemT P t with
      | some e => (match zeroT P e with
        | some z => z.length = szT P e ∧ 0 < szT P e ∧ 0 < m ∧ m * P.bytesOf e ≤ 140737488355328 ∧ m ≤ 9223372036854775807 ∧ K (.c (.sl (some (H.length, 0)) m.toNat)) (H ++ [.row e (szT P e) (List.replicate m.toNat z) true])
        | none => False)
      | none => False)
  | .len, [t], [.c (.map (some i))] => (isMapT t = true ∧ (mapK P t).isSome = true) ∧ aLenM H[i]? H K
  | _, _, _ => False

def partsOf (ps : List (Nat × Operand)) (ev : Operand → AV) : List (Nat × AV) := ps.map fun p => (p.1, ev p.2)
def buildAt (P : Program) (t : TypeId) : List AC → List (Nat × AV) → Option (List AC)
  | cs, [] => some cs
  | cs, (i, v) :: rest =>
    match fieldT P t i, v.cells with
    | some (o, n), some xs => if xs.length = n ∧ o + n ≤ cs.length then buildAt P t (setC cs o xs) rest else none
    | _, _ => none
/-- the elements of a literal, all of them there, in order -/
def litEls (sz : Nat) : Nat → List (Nat × AV) → Option (List (List AC))
  | _, [] => some []
  | n, (i, v) :: rest =>
    match v.cells with
    | some xs => if i = n ∧ xs.length = sz then (litEls sz (n + 1) rest).map (xs :: ·) else none
    | none => none

/-- all types of a struct's fields are known -/
def fieldsOk (P : Program) (t : TypeId) : Bool := match P.underlying t with | some (.struct fs) => fs.all fun f => (P.info? f.type).isSome | _ => false
/-- the bounds of a slice expression -/
def loOf (x : Option AV) : Option Int := match x with | none => some 0 | some (.c (.int _ q)) => some q | _ => none
def hiOf (x : Option AV) (n : Nat) : Option Int := match x with | none => some n | some (.c (.int _ q)) => some q | _ => none
def rowOk (P : Program) (H : Hp) (e : Nat) (r : Option (Nat × Nat)) : Prop := match r with
  | none => True
  | some p => match H[p.1]? with
    | some (.row _ sz _ _) => sz = szT P e
    | _ => False
def aIf (c : Prop) (v : AV) (H : Hp) (K : AV → Hp → Prop) : Prop := c ∧ K v H
def aOf (x : Option AC) (H : Hp) (K : AV → Hp → Prop) : Prop := match x with | some u => K (.c u) H | none => False
def aPick (c u v : AV) (H : Hp) (K : AV → Hp → Prop) : Prop := match c with
  | .c (.bool t) => (match u, v with
    | .c (.bool p), .c (.bool q) => K (.c (.bool (bif t then p else q))) H
    | u, v => K (bif t then u else v) H)
  | _ => False
def aUn (op : UnOp) (v : AV) (H : Hp) (K : AV → Hp → Prop) : Prop := match op, v with
  | .not, .c (.bool b) => K (.c (.bool (!b))) H
  | .neg, .c (.int k n) => K (.c (.int k (k.wrap (0 - n)))) H
  | _, _ => False
def aNew (t : TypeId) (cs : Option (List AC)) (H : Hp) (K : AV → Hp → Prop) : Prop := match cs with
  | some cs => K (.c (.ptr (some (H.length, 0, 0)))) (H ++ [.row t cs.length [cs] true])
  | none => False
def aBuild (cs : Option (List AC)) (ok : Bool) (H : Hp) (K : AV → Hp → Prop) : Prop := match cs with
  | some cs => ok = true ∧ K (.agg cs) H
  | none => False
def aLit (e : Option Nat) (sz : Nat) (z : Bool) (els : Option (List (List AC))) (n m : Nat) (H : Hp) (K : AV → Hp → Prop) : Prop := match e, els with
  | some e, some els => n = m ∧ 0 < sz ∧ n * sz ≤ 16777216 ∧ z = true ∧ K (.c (.sl (some (H.length, 0)) n)) (H ++ [.row e sz els true])
  | _, _ => False
def elAt (H : Hp) (i k : Nat) : Option (List AC) := match H[i]? with
  | some (.row _ _ els _) => els[k]?
  | _ => none
/-- a load: what there is at the place, whether the type is an aggregate, its size, whether it is known -/
def aLd (e : Option (List AC)) (j : Nat) (ag : Bool) (sz : Nat) (i1 i2 : Bool) (H : Hp) (K : AV → Hp → Prop) : Prop := match e, ag with
  | some e, true => aIf (i1 = true ∧ j + sz ≤ e.length) (.agg ((e.drop j).take sz)) H K
  | some e, false => i2 = true ∧ aOf e[j]? H K
  | none, _ => False
def aLoad (v : AV) (ag : Bool) (sz : Nat) (i1 i2 : Bool) (H : Hp) (K : AV → Hp → Prop) : Prop := match v with
  | .c (.ptr (some (i, k, j))) => aLd (elAt H i k) j ag sz i1 i2 H K
  | .c (.fp cs) => aLd (some cs) 0 ag sz i1 i2 H K
  | _ => False
def aSt3 (e : Option (List AC)) (ty sz : Nat) (els : List (List AC)) (i k j : Nat) (cs : List AC) (i1 : Bool) (szt : Nat) (H : Hp) (K : AV → Hp → Prop) : Prop := match e with
  | some e => aIf (i1 = true ∧ szt = cs.length ∧ j + cs.length ≤ sz) .any (H.set i (.row ty sz (els.set k (setC e j cs)) true)) K
  | none => False
def aSt2 (ob : Option AObj) (i k j : Nat) (cs : List AC) (i1 : Bool) (szt : Nat) (H : Hp) (K : AV → Hp → Prop) : Prop := match ob with
  | some (.row ty sz els true) => aSt3 els[k]? ty sz els i k j cs i1 szt H K
  | _ => False
/-- a store -/
def aSt (v : AV) (cs : Option (List AC)) (i1 : Bool) (szt : Nat) (H : Hp) (K : AV → Hp → Prop) : Prop := match v, cs with
  | .c (.ptr (some (i, k, j))), some cs => aSt2 H[i]? i k j cs i1 szt H K
  | _, _ => False
def aNil (v : AV) (H : Hp) (K : AV → Hp → Prop) : Prop := match v with
  | .c (.ptr (some p)) => K (.c (.ptr (some p))) H
  | .c (.fp cs) => K (.c (.fp cs)) H
  | _ => False
def aFld (v : AV) (f : Option (Nat × Nat)) (H : Hp) (K : AV → Hp → Prop) : Prop := match v, f with
  | .c (.ptr (some (i, k, j))), some (o, n) => n ≠ 0 ∧ K (.c (.ptr (some (i, k, j + o)))) H
  | .c (.fp cs), some (o, n) => n ≠ 0 ∧ K (.c (.fp (cs.drop o))) H
  | _, _ => False
def aIx2 (ob : Option AObj) (i k n : Nat) (q : Int) (s : Nat) (i1 : Bool) (H : Hp) (K : AV → Hp → Prop) : Prop := match ob with
  | some (.row _ sz _ _) => aIf (s = sz ∧ i1 = true ∧ 0 ≤ q ∧ q < n) (.c (.ptr (some (i, k + q.toNat, 0)))) H K
  | _ => False
def aIxL (e : Option (List AC)) (n : Nat) (q : Int) (s sz : Nat) (i1 : Bool) (H : Hp) (K : AV → Hp → Prop) : Prop := match e with
  | some e => aIf (s = sz ∧ i1 = true ∧ 0 ≤ q ∧ q < n) (.c (.fp e)) H K
  | none => False
/-- an index of a slice -/
def aIx (v q : AV) (sz : Option Nat) (i1 : Bool) (H : Hp) (K : AV → Hp → Prop) : Prop := match v, q, sz with
  | .c (.sl (some (i, k)) n), .c (.int _ q), some s => aIx2 H[i]? i k n q s i1 H K
  | .c (.lst sz els), .c (.int _ q), some s => aIxL els[q.toNat]? els.length q s sz i1 H K
  | _, _, _ => False
def aStr (v q : AV) (ok : Bool) (H : Hp) (K : AV → Hp → Prop) : Prop := match v, q with
  | .c (.str s), .c (.int _ q) => aIf (ok = true ∧ 0 ≤ q ∧ q < s.size) (.c (.int .u8 (s.data.toList.getD q.toNat 0).toNat)) H K
  | _, _ => False
def strT (P : Program) (t : TypeId) : Bool := match P.underlying t with | some .string => true | _ => false
def aSub (v : AV) (mx : Bool) (l : Option Int) (hi : Option AV) (e : Option Nat) (P : Program) (str : Bool) (H : Hp) (K : AV → Hp → Prop) : Prop := match v, mx, l with
  | .c (.sl r n), false, some l => (match e, hiOf hi n with
    | some e, some h => aIf ((P.info? e).isSome = true ∧ rowOk P H e r ∧ 0 ≤ l ∧ l ≤ h ∧ h ≤ n) (.c (.sl (r.map fun p => (p.1, p.2 + l.toNat)) (h.toNat - l.toNat))) H K
    | _, _ => False)
  | .c (.lst sz els), false, some l => (match e, hiOf hi els.length with
    | some e, some h => aIf ((P.info? e).isSome = true ∧ sz = szT P e ∧ 0 ≤ l ∧ l ≤ h ∧ h ≤ els.length) (.c (.lst sz ((els.drop l.toNat).take (h.toNat - l.toNat)))) H K
    | _, _ => False)
  | .c (.str s), false, some l => (match hiOf hi s.size with
    | some h => aIf (str = true ∧ 0 ≤ l ∧ l ≤ h ∧ h ≤ s.size) (.c (.str (s.extract l.toNat h.toNat))) H K
    | none => False)
  | _, _, _ => False
def aExt2 (v : Option AV) (H : Hp) (K : AV → Hp → Prop) : Prop := match v with | some v => K v H | none => False
def aExt (v : AV) (ix : Nat) (H : Hp) (K : AV → Hp → Prop) : Prop := match v with
  | .tup vs => aExt2 vs[ix]? H K
  | _ => False
/-- a function without a body, that the model itself answers -/
def externs (P : Program) (f : FuncId) (e : Array Value → Sem Value) : Prop := ∃ fn, P.funcs[f]? = some fn ∧ (fn.name == "runtime.NumGoroutine") = false ∧ fn.body.isNone = true ∧ Extern.findNext fn = none ∧ Extern.find fn = some e
def AExt (P : Program) (f : FuncId) (args : List AV) (H : Hp) (K : AV → Hp → Prop) : Prop :=
  ∃ e, externs P f e ∧ ∀ B w0 ι w vs, Sim B w0 ι H w → argsRel ι args vs → (∀ x ∈ args, x.ok1 H.length) → ∃ v w', (e vs).run P w = .ok v w' ∧ Done B w0 ι H.length K (.returned v) w'
theorem AExt.mono {P : Program} {f : FuncId} {args : List AV} {H : Hp} {K K' : AV → Hp → Prop} (h : AExt P f args H K) (hk : ∀ v H', K v H' → K' v H') : AExt P f args H K' := by
  obtain ⟨e, h1, h2⟩ := h
  refine ⟨e, h1, fun B w0 ι w vs hs hr ho => ?_⟩
  obtain ⟨v, w', h3, ι', u, av, H', g1, g2, g3, g4, g5, g6, g7⟩ := h2 B w0 ι w vs hs hr ho
  exact ⟨v, w', h3, ι', u, av, H', g1, g2, g3, g4, g5, g6, hk _ _ g7⟩
def aCallB (P : Program) (b : Bool) (f : FuncId) (as : List AV) (H : Hp) (K : AV → Hp → Prop) : Prop := match b with
  | true => ACalls P f as H K
  | false => AExt P f as H K
def aCall (P : Program) (v : AV) (as : List AV) (H : Hp) (K : AV → Hp → Prop) : Prop := match v with
  | .c (.fn f fs cs) => as.all noTup = true ∧ aCallB P (entersB P f) f (ptrs fs ++ as ++ ptrs cs) H K
  | _ => False
def ptrsOf : List AV → Option (List (Nat × Nat × Nat))
  | [] => some []
  | .c (.ptr (some p)) :: l => (ptrsOf l).map (p :: ·)
  | _ => none
/-- a function value with what it holds -/
def aMk (fn : Fn) (fs cs : Option (List (Nat × Nat × Nat))) (H : Hp) (K : AV → Hp → Prop) : Prop := match fn, fs, cs with
  | .func f, some fs, some cs => K (.c (.fn f fs cs)) H
  | _, _, _ => False
def aCv2 (k : Option IntKind) (n : Int) (s1 : Bool) (H : Hp) (K : AV → Hp → Prop) : Prop := match k with | some k => aIf (s1 = true) (.c (.int k (k.wrap n))) H K | none => False
/-- bytes as elements, and back -/
def bytesL (s : ByteArray) : List (List AC) := s.data.toList.map fun b => [.int .u8 b.toNat]
def unbyte : List (List AC) → Option (List UInt8)
  | [] => some []
  | [.int .u8 n] :: l => if 0 ≤ n ∧ n < 256 then (unbyte l).map (UInt8.ofNat n.toNat :: ·) else none
  | _ :: _ => none
def bytesT (P : Program) (t : TypeId) : Bool := match P.underlying t with | some (.slice e) => intK P e == some .u8 | _ => false
def aCvS (s : ByteArray) (s1 str bt : Bool) (H : Hp) (K : AV → Hp → Prop) : Prop := match bt with
  | true => aIf (s1 = true) (.c (.lst 1 (bytesL s))) H K
  | false => aIf (s1 = true ∧ str = true) (.c (.str s)) H K
def aCvB (b : Option (List UInt8)) (sb str : Bool) (H : Hp) (K : AV → Hp → Prop) : Prop := match b with
  | some l => aIf (sb = true ∧ str = true) (.c (.str ⟨l.toArray⟩)) H K
  | none => False
/-- an integer of another kind; a string of another name; a string's bytes; bytes' string -/
def aCv (v : AV) (s1 : Bool) (k : Option IntKind) (str bt sb : Bool) (H : Hp) (K : AV → Hp → Prop) : Prop := match v with
  | .c (.int _ n) => aCv2 k n s1 H K
  | .c (.str s) => aCvS s s1 str bt H K
  | .c (.lst _ els) => aCvB (unbyte els) sb str H K
  | _ => False
/-- no interface -/
def conT (P : Program) (t : TypeId) : Bool := match P.underlying t with | some (.interface _) | none => false | _ => true
/-- a value behind an interface: only that there is one -/
def aIfc (c : Bool) (v : AV) (H : Hp) (K : AV → Hp → Prop) : Prop := match v with
  | .tup _ => False
  | _ => aIf (c = true) (.c .ifc) H K
/-- a field of a struct at hand -/
def aFd (v : AV) (f : Option (Nat × Nat × Bool)) (H : Hp) (K : AV → Hp → Prop) : Prop := match v, f with
  | .agg cs, some (o, n, true) => aIf (o + n ≤ cs.length) (.agg ((cs.drop o).take n)) H K
  | .agg cs, some (o, _, false) => aOf cs[o]? H K
  | _, _ => False
def aOp (P : Program) (op : Op) (ev : Operand → AV) (H : Hp) (K : AV → Hp → Prop) : Prop :=
  match op with
  | .move x | .assign x => K (ev x) H
  | .pick c x y => aPick (ev c) (ev x) (ev y) H K
  | .binOp op t x y _ => aBinO P t op (ev x) (ev y) (isNilS y) (isNilI y) (fun v => K v H)
  | .unOp op _ x => aUn op (ev x) H K
  | .alloc t => aNew t (zeroT P t) H K
  | .box t x => aNew t (ev x).cells H K
  | .build t ps => aBuild ((zeroT P t).bind fun z => buildAt P t z (partsOf ps.toList ev)) (fieldsOk P t) H K
  | .buildSlice t n ps => aLit (elemT P t) ((elemT P t).elim 0 (szT P)) ((elemT P t).elim false fun e => (zeroT P e).isSome) ((elemT P t).bind fun e => litEls (szT P e) 0 (partsOf ps.toList ev)) n ps.size H K
  | .load t x => aLoad (ev x) (aggT P t) (szT P t) (P.info? t).isSome (P.underlying t).isSome H K
  | .store t x y => aSt (ev x) (ev y).cells (P.info? t).isSome (szT P t) H K
  | .nilCheck x => aNil (ev x) H K
  | .fieldAddr s x f => aFld (ev x) (fieldT P s f) H K
  | .indexAddr t x ix => aIx (ev x) (ev ix) ((elemT P t).map (szT P)) ((elemT P t).elim false fun e => (P.info? e).isSome) H K
  | .index t x ix => aStr (ev x) (ev ix) (strT P t) H K
  | .slice t x lo hi mx => aSub (ev x) mx.isSome (loOf (lo.map ev)) (hi.map ev) (elemT P t) P (strT P t) H K
  | .makeFunc f fs cs => aMk f (ptrsOf (fs.toList.map ev)) (ptrsOf (cs.toList.map ev)) H K
  | .convert s d x => aCv (ev x) (P.underlying s).isSome (intK P d) (strT P d) (bytesT P d) (bytesT P s) H K
  | .makeInterface t x => aIfc (conT P t) (ev x) H K
  | .makeMap _ r => aNewM r.isSome H K
  | .mapUpdate t m k x => aMapUp P (mapK P t) (ev m) (ev k) (ev x) H K
  | .lookup t x ix ok => aLook P (mapK P t) ((mapE P t).bind (zeroA P)) (ev x) (ev ix) ok H K
  | .field s x f => aFd (ev x) (fieldK P s f) H K
  | .extract x ix => aExt (ev x) ix H K
  | .call c => match c.callee with
    | .builtin b => aBuiltin P b c.argTypes (c.args.toList.map ev) H K
    | .value f => aCall P (ev f) (c.args.toList.map ev) H K
    | _ => False
  | _ => False
end Go.Proofs.YtkmkkjlfnobciaaGreatDoor
