/- Plain code run (2): operations, code, calls. No condition. -/
import Derived.Test.YtbgoaanalfdenaaCoreRun
import Derived.LoopN
namespace Go.Proofs.Ytbgoaanalfdenaa
open Go Go.RowKit
set_option linter.all false
set_option maxHeartbeats 1000000

def eIf (c : Prop) [Decidable c] (v : AV) (H : Hp) : Res := if c then some (v, H) else none
def eOf (x : Option AC) (H : Hp) : Res := match x with | some u => some (.c u, H) | none => none
def ePick (c u v : AV) (H : Hp) : Res := match c with
  | .c (.bool t) => (match u, v with
    | .c (.bool p), .c (.bool q) => some (.c (.bool (bif t then p else q)), H)
    | u, v => some (bif t then u else v, H))
  | _ => none
def eUn (op : UnOp) (v : AV) (H : Hp) : Res := match op, v with
  | .not, .c (.bool b) => some (.c (.bool (!b)), H)
  | .neg, .c (.int k n) => some (.c (.int k (k.wrap (0 - n))), H)
  | _, _ => none
def eNew (t : TypeId) (cs : Option (List AC)) (H : Hp) : Res := match cs with
  | some cs => some (.c (.ptr (some (H.length, 0, 0))), H ++ [.row t cs.length [cs] true])
  | none => none
def eBuild (cs : Option (List AC)) (ok : Bool) (H : Hp) : Res := match cs with
  | some cs => eIf (ok = true) (.agg cs) H
  | none => none
def eLit (e : Option Nat) (sz : Nat) (z : Bool) (els : Option (List (List AC))) (n m : Nat) (H : Hp) : Res := match e, els with
  | some e, some els => if n = m ∧ 0 < sz ∧ n * sz ≤ 16777216 ∧ z = true then some (.c (.sl (some (H.length, 0)) n), H ++ [.row e sz els true]) else none
  | _, _ => none
def eLd (e : Option (List AC)) (j : Nat) (ag : Bool) (sz : Nat) (i1 i2 : Bool) (H : Hp) : Res := match e, ag with
  | some e, true => eIf (i1 = true ∧ j + sz ≤ e.length) (.agg ((e.drop j).take sz)) H
  | some e, false => if i2 = true then eOf e[j]? H else none
  | none, _ => none
def eLoad (v : AV) (ag : Bool) (sz : Nat) (i1 i2 : Bool) (H : Hp) : Res := match v with
  | .c (.ptr (some (i, k, j))) => eLd (elAt H i k) j ag sz i1 i2 H
  | .c (.fp cs) => eLd (some cs) 0 ag sz i1 i2 H
  | _ => none
def eSt3 (e : Option (List AC)) (ty sz : Nat) (els : List (List AC)) (i k j : Nat) (cs : List AC) (i1 : Bool) (szt : Nat) (H : Hp) : Res := match e with
  | some e => eIf (i1 = true ∧ szt = cs.length ∧ j + cs.length ≤ sz) .any (H.set i (.row ty sz (els.set k (setC e j cs)) true))
  | none => none
def eSt2 (ob : Option AObj) (i k j : Nat) (cs : List AC) (i1 : Bool) (szt : Nat) (H : Hp) : Res := match ob with
  | some (.row ty sz els true) => eSt3 els[k]? ty sz els i k j cs i1 szt H
  | _ => none
def eSt (v : AV) (cs : Option (List AC)) (i1 : Bool) (szt : Nat) (H : Hp) : Res := match v, cs with
  | .c (.ptr (some (i, k, j))), some cs => eSt2 H[i]? i k j cs i1 szt H
  | _, _ => none
def eNil (v : AV) (H : Hp) : Res := match v with
  | .c (.ptr (some p)) => some (.c (.ptr (some p)), H)
  | .c (.fp cs) => some (.c (.fp cs), H)
  | _ => none
def eFld (v : AV) (f : Option (Nat × Nat)) (H : Hp) : Res := match v, f with
  | .c (.ptr (some (i, k, j))), some (o, n) => if n ≠ 0 then some (.c (.ptr (some (i, k, j + o))), H) else none
  | .c (.fp cs), some (o, n) => if n ≠ 0 then some (.c (.fp (cs.drop o)), H) else none
  | _, _ => none
def eIx2 (ob : Option AObj) (i k n : Nat) (q : Int) (s : Nat) (i1 : Bool) (H : Hp) : Res := match ob with
  | some (.row _ sz _ _) => eIf (s = sz ∧ i1 = true ∧ 0 ≤ q ∧ q < n) (.c (.ptr (some (i, k + q.toNat, 0)))) H
  | _ => none
def eIxL (e : Option (List AC)) (n : Nat) (q : Int) (s sz : Nat) (i1 : Bool) (H : Hp) : Res := match e with
  | some e => eIf (s = sz ∧ i1 = true ∧ 0 ≤ q ∧ q < n) (.c (.fp e)) H
  | none => none
def eIx (v q : AV) (sz : Option Nat) (i1 : Bool) (H : Hp) : Res := match v, q, sz with
  | .c (.sl (some (i, k)) n), .c (.int _ q), some s => eIx2 H[i]? i k n q s i1 H
  | .c (.lst sz els), .c (.int _ q), some s => eIxL els[q.toNat]? els.length q s sz i1 H
  | _, _, _ => none
def eStr (v q : AV) (ok : Bool) (H : Hp) : Res := match v, q with
  | .c (.str s), .c (.int _ q) => eIf (ok = true ∧ 0 ≤ q ∧ q < s.size) (.c (.int .u8 (s.data.toList.getD q.toNat 0).toNat)) H
  | _, _ => none
def rowOkB (P : Program) (H : Hp) (e : Nat) (r : Option (Nat × Nat)) : Bool := match r with
  | none => true
  | some p => match H[p.1]? with
    | some (.row _ sz _ _) => sz == szT P e
    | _ => false
def eSub (v : AV) (mx : Bool) (l : Option Int) (hi : Option AV) (e : Option Nat) (P : Program) (str : Bool) (H : Hp) : Res := match v, mx, l with
  | .c (.sl r n), false, some l => (match e, hiOf hi n with
    | some e, some h => eIf ((P.info? e).isSome = true ∧ rowOkB P H e r = true ∧ 0 ≤ l ∧ l ≤ h ∧ h ≤ n) (.c (.sl (r.map fun p => (p.1, p.2 + l.toNat)) (h.toNat - l.toNat))) H
    | _, _ => none)
  | .c (.lst sz els), false, some l => (match e, hiOf hi els.length with
    | some e, some h => eIf ((P.info? e).isSome = true ∧ sz = szT P e ∧ 0 ≤ l ∧ l ≤ h ∧ h ≤ els.length) (.c (.lst sz ((els.drop l.toNat).take (h.toNat - l.toNat)))) H
    | _, _ => none)
  | .c (.str s), false, some l => (match hiOf hi s.size with
    | some h => eIf (str = true ∧ 0 ≤ l ∧ l ≤ h ∧ h ≤ s.size) (.c (.str (s.extract l.toNat h.toNat))) H
    | none => none)
  | _, _, _ => none
def eExt (v : AV) (ix : Nat) (H : Hp) : Res := match v with
  | .tup vs => (match vs[ix]? with | some v => some (v, H) | none => none)
  | _ => none
def eCallV (P : Program) (call ext : FuncId → List AV → Hp → Res) (v : AV) (as : List AV) (H : Hp) : Res := match v with
  | .c (.fn f fs cs) => if as.all noTup = true then (match entersB P f with
    | true => call f (ptrs fs ++ as ++ ptrs cs) H
    | false => ext f (ptrs fs ++ as ++ ptrs cs) H) else none
  | _ => none
def eMk (fn : Fn) (fs cs : Option (List (Nat × Nat × Nat))) (H : Hp) : Res := match fn, fs, cs with
  | .func f, some fs, some cs => some (.c (.fn f fs cs), H)
  | _, _, _ => none
def eCv (v : AV) (s1 : Bool) (k : Option IntKind) (str bt sb : Bool) (H : Hp) : Res := match v with
  | .c (.int _ n) => (match k with | some k => eIf (s1 = true) (.c (.int k (k.wrap n))) H | none => none)
  | .c (.str s) => (match bt with | true => eIf (s1 = true) (.c (.lst 1 (bytesL s))) H | false => eIf (s1 = true ∧ str = true) (.c (.str s)) H)
  | .c (.lst _ els) => (match unbyte els with | some l => eIf (sb = true ∧ str = true) (.c (.str ⟨l.toArray⟩)) H | none => none)
  | _ => none
def eIfc (c : Bool) (v : AV) (H : Hp) : Res := match v with
  | .tup _ => none
  | _ => eIf (c = true) (.c .ifc) H
def eFd (v : AV) (f : Option (Nat × Nat × Bool)) (H : Hp) : Res := match v, f with
  | .agg cs, some (o, n, true) => eIf (o + n ≤ cs.length) (.agg ((cs.drop o).take n)) H
  | .agg cs, some (o, _, false) => eOf cs[o]? H
  | _, _ => none
def eAC (x : Option AC) (H : Hp) : Res := match x with | some u => some (.c u, H) | none => none
def eOp (P : Program) (call ext : FuncId → List AV → Hp → Res) (op : Op) (ev : Operand → AV) (H : Hp) : Res :=
  match op with
  | .move x | .assign x => some (ev x, H)
  | .pick c x y => ePick (ev c) (ev x) (ev y) H
  | .binOp op t x y _ => eAC (eBinO P t op (ev x) (ev y) (isNilS y) (isNilI y)) H
  | .unOp op _ x => eUn op (ev x) H
  | .alloc t => eNew t (zeroT P t) H
  | .box t x => eNew t (ev x).cells H
  | .build t ps => eBuild ((zeroT P t).bind fun z => buildAt P t z (partsOf ps.toList ev)) (fieldsOk P t) H
  | .buildSlice t n ps => eLit (elemT P t) ((elemT P t).elim 0 (szT P)) ((elemT P t).elim false fun e => (zeroT P e).isSome) ((elemT P t).bind fun e => litEls (szT P e) 0 (partsOf ps.toList ev)) n ps.size H
  | .load t x => eLoad (ev x) (aggT P t) (szT P t) (P.info? t).isSome (P.underlying t).isSome H
  | .store t x y => eSt (ev x) (ev y).cells (P.info? t).isSome (szT P t) H
  | .nilCheck x => eNil (ev x) H
  | .fieldAddr s x f => eFld (ev x) (fieldT P s f) H
  | .indexAddr t x ix => eIx (ev x) (ev ix) ((elemT P t).map (szT P)) ((elemT P t).elim false fun e => (P.info? e).isSome) H
  | .index t x ix => eStr (ev x) (ev ix) (strT P t) H
  | .slice t x lo hi mx => eSub (ev x) mx.isSome (loOf (lo.map ev)) (hi.map ev) (elemT P t) P (strT P t) H
  | .makeFunc f fs cs => eMk f (ptrsOf (fs.toList.map ev)) (ptrsOf (cs.toList.map ev)) H
  | .convert s d x => eCv (ev x) (P.underlying s).isSome (intK P d) (strT P d) (bytesT P d) (bytesT P s) H
  | .makeInterface t x => eIfc (conT P t) (ev x) H
  | .field s x f => eFd (ev x) (fieldK P s f) H
  | .extract x ix => eExt (ev x) ix H
  | .call c => match c.callee with
    | .builtin b => eBuiltin P b c.argTypes (c.args.toList.map ev) H
    | .value f => eCallV P call ext (ev f) (c.args.toList.map ev) H
    | _ => none
  | _ => none
section
variable {P : Program} {H H' : Hp} {K : AV → Hp → Prop} {v : AV}
theorem eIf_ok {c : Prop} [Decidable c] {u : AV} (h : eIf c u H = some (v, H')) (hk : K v H') : aIf c u H K := by
  unfold eIf at h; split at h
  · injection h with h; injection h with e1 e2; subst e1; subst e2; exact ⟨by assumption, hk⟩
  · cases h
theorem eOf_ok {x : Option AC} (h : eOf x H = some (v, H')) (hk : K v H') : aOf x H K := by
  unfold eOf at h; split at h
  · injection h with h; injection h with e1 e2; subst e1; subst e2; exact hk
  · cases h
theorem eLd_ok {e : Option (List AC)} {j : Nat} {ag : Bool} {sz : Nat} {i1 i2 : Bool} (h : eLd e j ag sz i1 i2 H = some (v, H')) (hk : K v H') : aLd e j ag sz i1 i2 H K := by
  unfold eLd at h; split at h
  · exact eIf_ok h hk
  · split at h
    · exact ⟨by assumption, eOf_ok h hk⟩
    · cases h
  · cases h
theorem rowOkB_ok {e : Nat} {r : Option (Nat × Nat)} (h : rowOkB P H e r = true) : rowOk P H e r := by
  unfold rowOkB at h
  unfold rowOk
  split
  · trivial
  · rename_i p
    dsimp only at h
    split at h
    · rename_i _ sz _ _ h1
      rw [h1]
      simpa using h
    · cases h
/-- what calls answer -/
def CallOk (P : Program) (call : FuncId → List AV → Hp → Res) : Prop := ∀ f args H v H' K, call f args H = some (v, H') → K v H' → ACalls P f args H K
def ExtOk (P : Program) (ext : FuncId → List AV → Hp → Res) : Prop := ∀ f args H v H' K, ext f args H = some (v, H') → K v H' → AExt P f args H K
theorem eOp_ok {call ext : FuncId → List AV → Hp → Res} (hc : CallOk P call) (he : ExtOk P ext) {op : Op} {ev : Operand → AV} (h : eOp P call ext op ev H = some (v, H')) (hk : K v H') : aOp P op ev H K := by
  cases op <;> simp only [eOp] at h <;> first | cases h; done | skip
  case move x => injection h with h; injection h with e1 e2; subst e1; subst e2; exact hk
  case assign x => injection h with h; injection h with e1 e2; subst e1; subst e2; exact hk
  case pick c x y =>
    simp only [aOp]
    unfold ePick at h
    unfold aPick
    split at h
    · rename_i t ht
      rw [ht]
      dsimp only
      split at h
      · rename_i p q hp hq
        rw [hp, hq]
        injection h with h; injection h with e1 e2; subst e1; subst e2; exact hk
      · rename_i hn
        injection h with h; injection h with e1 e2; subst e1; subst e2
        split
        · rename_i p q hp hq
          exact absurd hq (hn _ _ hp)
        · exact hk
    · cases h
  case binOp b t x y t2 =>
    unfold eAC at h
    split at h
    · rename_i u hu
      injection h with h; injection h with e1 e2; subst e1; subst e2
      exact eBinO_ok (K := fun v => K v H) hu hk
    · cases h
  case unOp op t x =>
    simp only [aOp]
    unfold eUn at h
    split at h
    · rename_i h1; rw [h1]; injection h with h; injection h with e1 e2; subst e1; subst e2; exact hk
    · rename_i h1; rw [h1]; injection h with h; injection h with e1 e2; subst e1; subst e2; exact hk
    · cases h
  case alloc t =>
    simp only [aOp]
    unfold eNew at h; unfold aNew
    split at h
    · rename_i h1; rw [h1]; injection h with h; injection h with e1 e2; subst e1; subst e2; exact hk
    · cases h
  case box t x =>
    simp only [aOp]
    unfold eNew at h; unfold aNew
    split at h
    · rename_i h1; rw [h1]; injection h with h; injection h with e1 e2; subst e1; subst e2; exact hk
    · cases h
  case build t ps =>
    simp only [aOp]
    unfold eBuild at h; unfold aBuild
    split at h
    · rename_i h1; rw [h1]; exact eIf_ok h hk
    · cases h
  case buildSlice t n ps =>
    simp only [aOp]
    unfold eLit at h; unfold aLit
    split at h
    · rename_i h1 h2; rw [h2]
      split at h
      · rename_i h3
        injection h with h; injection h with e1 e2; subst e1; subst e2
        obtain ⟨g1, g2, g3, g4⟩ := h3
        rw [h1] at g2 g3 g4 hk ⊢
        exact ⟨g1, g2, g3, g4, hk⟩
      · cases h
    · cases h
  case load t x =>
    simp only [aOp]
    unfold eLoad at h; unfold aLoad
    split at h
    · rename_i h1; rw [h1]; exact eLd_ok h hk
    · rename_i h1; rw [h1]; exact eLd_ok h hk
    · cases h
  case store t x y =>
    simp only [aOp]
    unfold eSt at h; unfold aSt
    split at h
    · rename_i i k j cs h1 h2; rw [h1, h2]
      unfold eSt2 at h; unfold aSt2
      dsimp only
      split at h
      · rename_i h3; rw [h3]
        unfold eSt3 at h; unfold aSt3
        dsimp only
        split at h
        · rename_i h4; rw [h4]
          unfold eIf at h
          split at h
          · injection h with h; injection h with e1 e2; subst e1; subst e2; exact ⟨by assumption, hk⟩
          · cases h
        · cases h
      · cases h
    · cases h
  case nilCheck x =>
    simp only [aOp]
    unfold eNil at h; unfold aNil
    split at h
    · rename_i h1; rw [h1]; injection h with h; injection h with e1 e2; subst e1; subst e2; exact hk
    · rename_i h1; rw [h1]; injection h with h; injection h with e1 e2; subst e1; subst e2; exact hk
    · cases h
  case fieldAddr s x f =>
    simp only [aOp]
    unfold eFld at h; unfold aFld
    split at h
    · rename_i h1 h2; rw [h1, h2]
      split at h
      · injection h with h; injection h with e1 e2; subst e1; subst e2; exact ⟨by assumption, hk⟩
      · cases h
    · rename_i h1 h2; rw [h1, h2]
      split at h
      · injection h with h; injection h with e1 e2; subst e1; subst e2; exact ⟨by assumption, hk⟩
      · cases h
    · cases h
  case indexAddr t x ix =>
    simp only [aOp]
    unfold eIx at h; unfold aIx
    split at h
    · rename_i h1 h2 h3; rw [h1, h2, h3]
      unfold eIx2 at h; unfold aIx2
      dsimp only
      split at h
      · rename_i h4; rw [h4]; exact eIf_ok h hk
      · cases h
    · rename_i h1 h2 h3; rw [h1, h2, h3]
      unfold eIxL at h; unfold aIxL
      dsimp only
      split at h
      · rename_i h4; rw [h4]; exact eIf_ok h hk
      · cases h
    · cases h
  case index t x ix =>
    simp only [aOp]
    unfold eStr at h; unfold aStr
    split at h
    · rename_i h1 h2; rw [h1, h2]; exact eIf_ok h hk
    · cases h
  case slice t x lo hi mx =>
    simp only [aOp]
    unfold eSub at h; unfold aSub
    split at h
    · rename_i h1 h2 h3; rw [h1, h2, h3]
      dsimp only
      split at h
      · rename_i h4 h5; rw [h4, h5]
        unfold eIf at h
        split at h
        · rename_i h6
          injection h with h; injection h with e1 e2; subst e1; subst e2
          obtain ⟨g1, g2, g3, g4, g5⟩ := h6
          exact ⟨⟨g1, rowOkB_ok g2, g3, g4, g5⟩, hk⟩
        · cases h
      · cases h
    · rename_i h1 h2 h3; rw [h1, h2, h3]
      dsimp only
      split at h
      · rename_i h4 h5; rw [h4, h5]; exact eIf_ok h hk
      · cases h
    · rename_i h1 h2 h3; rw [h1, h2, h3]
      dsimp only
      split at h
      · rename_i h4; rw [h4]; exact eIf_ok h hk
      · cases h
    · cases h
  case makeFunc f fs cs =>
    simp only [aOp]
    unfold eMk at h; unfold aMk
    split at h
    · rename_i h1 h2; rw [h1, h2]; injection h with h; injection h with e1 e2; subst e1; subst e2; exact hk
    · cases h
  case convert s d x =>
    simp only [aOp]
    unfold eCv at h; unfold aCv
    split at h
    · rename_i h1; rw [h1]
      unfold aCv2
      dsimp only
      split at h
      · rename_i h2; rw [h2]; exact eIf_ok h hk
      · cases h
    · rename_i h1; rw [h1]
      unfold aCvS
      dsimp only
      split at h
      · rename_i h2; rw [h2]; exact eIf_ok h hk
      · rename_i h2; rw [h2]; exact eIf_ok h hk
    · rename_i h1; rw [h1]
      unfold aCvB
      dsimp only
      split at h
      · rename_i h2; rw [h2]; exact eIf_ok h hk
      · cases h
    · cases h
  case makeInterface t x =>
    simp only [aOp]
    unfold eIfc at h; unfold aIfc
    split at h
    · cases h
    · rename_i hn
      split
      · rename_i h1; exact absurd h1 (hn _)
      · exact eIf_ok h hk
  case field s x f =>
    simp only [aOp]
    unfold eFd at h; unfold aFd
    split at h
    · rename_i h1 h2; rw [h1, h2]; exact eIf_ok h hk
    · rename_i h1 h2; rw [h1, h2]; exact eOf_ok h hk
    · cases h
  case extract x ix =>
    simp only [aOp]
    unfold eExt at h; unfold aExt
    split at h
    · rename_i h1; rw [h1]
      unfold aExt2
      dsimp only
      split at h
      · rename_i h2; rw [h2]; injection h with h; injection h with e1 e2; subst e1; subst e2; exact hk
      · cases h
    · cases h
  case call c =>
    simp only [aOp]
    split at h
    · rename_i h1; rw [h1]; exact eBuiltin_ok h hk
    · rename_i h1; rw [h1]
      unfold eCallV at h; unfold aCall
      dsimp only
      split at h
      · rename_i h2; rw [h2]
        split at h
        · refine ⟨by assumption, ?_⟩
          unfold aCallB
          split at h
          · rename_i h3; rw [h3]; exact hc _ _ _ _ _ _ h hk
          · rename_i h3; rw [h3]; exact he _ _ _ _ _ _ h hk
        · cases h
      · cases h
    · cases h
end
/-! ### code -/
def eGuard (P : Program) (call ext : FuncId → List AV → Hp → Res) (ops : Array Oper) (o : Oper) (F : Fr) (H : Hp) : Option (Fr × Hp) :=
  match o.guard with
  | none => (match eOp P call ext o.op (evC F) H with | some (v, H') => some (F.put o.dst v, H') | none => none)
  | some (j, want) => match (ops[j]?).bind (·.dst) with
    | some t => (match F t with
      | .c (.bool b) => if b = want then (match eOp P call ext o.op (evC F) H with | some (v, H') => some (F.put o.dst v, H') | none => none) else some (F.put o.dst (.tup []), H)
      | .tup [] => some (F.put o.dst (.tup []), H)
      | _ => none)
    | none => none
def eOps (P : Program) (call ext : FuncId → List AV → Hp → Res) (ops : Array Oper) : List Oper → Fr → Hp → Option (Fr × Hp)
  | [], F, H => some (F, H)
  | o :: rest, F, H => match eGuard P call ext ops o F H with
    | some (F', H') => eOps P call ext ops rest F' H'
    | none => none
def eLoop (body : Fr → Hp → Option (AExit × Fr × Hp)) : Nat → Fr → Hp → Option (AExit × Fr × Hp)
  | 0, _, _ => none
  | k + 1, F, H => match body F H with
    | some (.normal, F', H') => eLoop body k F' H'
    | r => r
def eCode (P : Program) (call ext : FuncId → List AV → Hp → Res) : Code → Fr → Hp → Option (AExit × Fr × Hp)
  | .skip, F, H => some (.normal, F, H)
  | .label _, F, H => some (.normal, F, H)
  | .seq x y, F, H => (match eCode P call ext x F H with
    | some (.normal, F', H') => eCode P call ext y F' H'
    | r => r)
  | .cond c x y, F, H => (match evC F c with
    | .c (.bool true) => eCode P call ext x F H
    | .c (.bool false) => eCode P call ext y F H
    | _ => none)
  | .block id c, F, H => (match eCode P call ext c F H with
    | some (.exit id', F', H') => if id' = id then some (.normal, F', H') else some (.exit id', F', H')
    | r => r)
  | .exit id, F, H => some (.exit id, F, H)
  | .ret, F, H => some (.ret, F, H)
  | .loop c, F, H => eLoop (eCode P call ext c) 1000 F H
  | .region _ ops draw, F, H => if draw = false ∨ (P.follows .mixedOrders = true ∧ linOk ops.toList = true) then (match eOps P call ext ops ops.toList F H with | some (F', H') => some (.normal, F', H') | none => none) else none
  | _, _, _ => none
section
variable {P : Program} {n N : Nat} {L : List Tmp} {call ext : FuncId → List AV → Hp → Res}
theorem eGuard_ok (hc : CallOk P call) (he : ExtOk P ext) {ops : Array Oper} {o : Oper} {F F' : Fr} {H H' : Hp} {K : Fr → Hp → Prop} (h : eGuard P call ext ops o F H = some (F', H')) (hk : K F' H') : aGuard P ops o K F H := by
  unfold eGuard at h; unfold aGuard
  split at h
  · rename_i h1; rw [h1]
    dsimp only
    split at h
    · rename_i h2
      injection h with h; injection h with e1 e2; subst e1; subst e2
      exact eOp_ok hc he h2 hk
    · cases h
  · rename_i j want h1; rw [h1]
    dsimp only
    split at h
    · rename_i t h2; rw [h2]
      dsimp only
      split at h
      · rename_i b h3; rw [h3]
        dsimp only
        split at h
        · rename_i hb
          subst hb
          split at h
          · rename_i h4
            injection h with h; injection h with e1 e2; subst e1; subst e2
            exact ⟨fun _ => eOp_ok hc he h4 hk, fun e => by cases b <;> cases e⟩
          · cases h
        · rename_i hb
          injection h with h; injection h with e1 e2; subst e1; subst e2
          exact ⟨fun e => absurd e hb, fun _ => hk⟩
      · rename_i h3; rw [h3]
        injection h with h; injection h with e1 e2; subst e1; subst e2
        exact hk
      · cases h
    · cases h
theorem eOps_ok (hc : CallOk P call) (he : ExtOk P ext) {ops : Array Oper} {K : Fr → Hp → Prop} : ∀ (l : List Oper) {F F' : Fr} {H H' : Hp}, eOps P call ext ops l F H = some (F', H') → K F' H' → aOps P ops K l F H
  | [], F, F', H, H', h, hk => by
    unfold eOps at h
    injection h with h; injection h with e1 e2; subst e1; subst e2; exact hk
  | o :: rest, F, F', H, H', h, hk => by
    unfold eOps at h
    split at h
    · rename_i h1
      exact eGuard_ok hc he h1 (eOps_ok hc he rest h hk)
    · cases h
/-- what is asked behind a round -/
def QE (P : Program) (n N : Nat) (L : List Tmp) (c : Code) (Q : AExit → Fr → Hp → Prop) : Nat → AExit → Fr → Hp → Prop
  | 0 => fun e F H => match e with | .normal => False | e => Q e F H
  | k + 1 => fun e F H => match e with | .normal => AWp P n N L c (QE P n N L c Q k) F H | e => Q e F H
theorem AWp.roundsE {c : Code} {Q : AExit → Fr → Hp → Prop} {F : Fr} {H : Hp} (k : Nat) (hc : codeOk N c = true) (h : AWp P n N L c (QE P n N L c Q k) F H) : AWp P n N L (.loop c) Q F H := by
  intro B w0 ι0 ι a w hA hn hs hF
  have key : ∀ (k : Nat) (F' : Fr) (H' : Hp) (ι' : En) (a' : Act) (w' : World), Agree n ι0 ι' → n ≤ H'.length → Sim B w0 ι' H' w' → FOk N ι' H'.length F' a' → (∀ t ∈ L, t ∉ asg c → F' t = F t) → AWp P n N L c (QE P n N L c Q k) F' H' → Code.rounds P c (CQ B w0 ι0 n N (QF L (.loop c) F Q)) (k + 1) a' w' := by
    intro k
    induction k with
    | zero =>
      intro F' H' ι' a' w' g1 g2 g3 g4 g5 g6
      rw [rounds_succ]
      refine wp_mono (awp_sound c _ hc g1 g2 g3 g4 (awp_frame g6)) ?_
      intro e a2 w2 he
      cases e with
      | normal => obtain ⟨ι2, F2, H2, k1, k2, k3, k4, k5, k6⟩ := he; exact k5.elim
      | exit id => obtain ⟨ι2, F2, H2, k1, k2, k3, k4, k5, k6⟩ := he; exact ⟨ι2, F2, H2, k1, k2, k3, k4, k5, fun t ht hm => (k6 t ht hm).trans (g5 t ht hm)⟩
      | ret => obtain ⟨ι2, F2, H2, k1, k2, k3, k4, k5, k6⟩ := he; exact ⟨ι2, F2, H2, k1, k2, k3, k4, k5, fun t ht hm => (k6 t ht hm).trans (g5 t ht hm)⟩
      | _ => exact he
    | succ k ih =>
      intro F' H' ι' a' w' g1 g2 g3 g4 g5 g6
      rw [rounds_succ]
      refine wp_mono (awp_sound c _ hc g1 g2 g3 g4 (awp_frame g6)) ?_
      intro e a2 w2 he
      cases e with
      | normal => obtain ⟨ι2, F2, H2, k1, k2, k3, k4, k5, k6⟩ := he; exact ih F2 H2 ι2 a2 w2 k1 k2 k3 k4 (fun t ht hm => (k6 t ht hm).trans (g5 t ht hm)) k5
      | exit id => obtain ⟨ι2, F2, H2, k1, k2, k3, k4, k5, k6⟩ := he; exact ⟨ι2, F2, H2, k1, k2, k3, k4, k5, fun t ht hm => (k6 t ht hm).trans (g5 t ht hm)⟩
      | ret => obtain ⟨ι2, F2, H2, k1, k2, k3, k4, k5, k6⟩ := he; exact ⟨ι2, F2, H2, k1, k2, k3, k4, k5, fun t ht hm => (k6 t ht hm).trans (g5 t ht hm)⟩
      | _ => exact he
  exact wp_loop_rounds (k + 1) (key k F H ι a w hA hn hs hF (fun _ _ _ => rfl) h)
theorem eCode_ok (hc : CallOk P call) (he : ExtOk P ext) : ∀ (c : Code) {Q : AExit → Fr → Hp → Prop} {e : AExit} {F F' : Fr} {H H' : Hp}, codeOk N c = true → eCode P call ext c F H = some (e, F', H') → Q e F' H' → AWp P n N L c Q F H := by
  intro c
  induction c with
  | skip => intro Q e F F' H H' _ h hq; unfold eCode at h; injection h with h; injection h with e1 e2; injection e2 with e2 e3; subst e1; subst e2; subst e3; exact hq
  | label l => intro Q e F F' H H' _ h hq; unfold eCode at h; injection h with h; injection h with e1 e2; injection e2 with e2 e3; subst e1; subst e2; subst e3; exact hq
  | ret => intro Q e F F' H H' _ h hq; unfold eCode at h; injection h with h; injection h with e1 e2; injection e2 with e2 e3; subst e1; subst e2; subst e3; exact hq
  | exit id => intro Q e F F' H H' _ h hq; unfold eCode at h; injection h with h; injection h with e1 e2; injection e2 with e2 e3; subst e1; subst e2; subst e3; exact hq
  | seq x y ihx ihy =>
    intro Q e F F' H H' hok h hq
    simp only [codeOk, Bool.and_eq_true] at hok
    unfold eCode at h
    split at h
    · rename_i F1 H1 h1
      exact ihx hok.1 h1 (ihy hok.2 h hq)
    · rename_i r hr
      refine ihx (Q := fun e F H => match e with | .normal => AWp P n N L y Q F H | e => Q e F H) hok.1 h ?_
      cases e with
      | normal => exact absurd h (hr _ _)
      | _ => exact hq
  | cond c x y ihx ihy =>
    intro Q e F F' H H' hok h hq
    simp only [codeOk, Bool.and_eq_true] at hok
    unfold eCode at h
    unfold AWp
    split at h
    · rename_i h1; rw [h1]; exact ⟨fun _ => ihx hok.1 h hq, fun e => (by cases e)⟩
    · rename_i h1; rw [h1]; exact ⟨fun e => (by cases e), fun _ => ihy hok.2 h hq⟩
    · cases h
  | block id c ih =>
    intro Q e F F' H H' hok h hq
    unfold eCode at h
    unfold AWp
    split at h
    · rename_i id' F1 H1 h1
      refine ih hok h1 ?_
      dsimp only
      split at h
      · rename_i hid
        rw [if_pos hid]
        injection h with h; injection h with e1 e2; injection e2 with e2 e3; subst e1; subst e2; subst e3; exact hq
      · rename_i hid
        rw [if_neg hid]
        injection h with h; injection h with e1 e2; injection e2 with e2 e3; subst e1; subst e2; subst e3; exact hq
    · rename_i r hr
      refine ih hok h ?_
      cases e with
      | exit i => exact absurd h (hr _ _ _)
      | _ => exact hq
  | loop c ih =>
    intro Q e F F' H H' hok h hq
    unfold eCode at h
    have key : ∀ (k : Nat) (F1 : Fr) (H1 : Hp), eLoop (eCode P call ext c) (k + 1) F1 H1 = some (e, F', H') → AWp P n N L c (QE P n N L c Q k) F1 H1 := by
      intro k
      induction k with
      | zero =>
        intro F1 H1 h
        unfold eLoop at h
        split at h
        · unfold eLoop at h; cases h
        · rename_i r hr
          refine ih hok h ?_
          cases e with
          | normal => exact absurd h (hr _ _)
          | _ => exact hq
      | succ k ihk =>
        intro F1 H1 h
        unfold eLoop at h
        split at h
        · rename_i h1
          exact ih hok h1 (ihk _ _ h)
        · rename_i r hr
          refine ih hok h ?_
          cases e with
          | normal => exact absurd h (hr _ _)
          | _ => exact hq
    exact AWp.roundsE 999 hok (key 999 F H h)
  | region id ops draw =>
    intro Q e F F' H H' hok h hq
    unfold eCode at h
    split at h
    · rename_i hd
      split at h
      · rename_i F1 H1 h1
        injection h with h; injection h with e1 e2; injection e2 with e2 e3; subst e1; subst e2; subst e3
        have h2 := eOps_ok (K := Q .normal) hc he _ h1 hq
        cases draw with
        | false => exact h2
        | true =>
          rcases hd with hd | ⟨hm, hl⟩
          · cases hd
          · have := w_draw (n := n) (N := N) (L := L) (id := id) (l := ops.toList) (Q := Q) hm hl (by simpa using h2)
            simpa using this
      · cases h
    · cases h
  | _ => intro Q e F F' H H' _ h hq; unfold eCode at h; cases h
end
/-! ### calls -/
def okB (n : Nat) : AC → Bool
  | .ptr (some p) => decide (p.1 < n)
  | .sl (some (i, _)) _ => decide (i < n)
  | .map (some i) => decide (i < n)
  | .fn _ fs cs => fs.all (fun p => decide (p.1 < n)) && cs.all (fun p => decide (p.1 < n))
  | _ => true
def ok1B (n : Nat) : AV → Bool
  | .c x => okB n x
  | .agg cs => cs.all (okB n)
  | _ => true
def okVB (n : Nat) : AV → Bool
  | .tup ts => ts.all (ok1B n)
  | x => ok1B n x
def okOB (n : Nat) : AObj → Bool
  | .row _ sz els _ => els.all fun e => e.length == sz && e.all (okB n)
  | .map _ _ _ => false
  | .dead => true
theorem okB_ok {n : Nat} {x : AC} (h : okB n x = true) : x.ok n := by
  unfold okB at h
  split at h <;> first
    | (simpa [AC.ok] using h)
    | (simp only [Bool.and_eq_true, List.all_eq_true, decide_eq_true_eq] at h; exact h)
    | skip
theorem ok1B_ok {n : Nat} {x : AV} (h : ok1B n x = true) : x.ok1 n := by
  cases x with
  | c x => exact okB_ok h
  | agg cs => intro y hy; exact okB_ok (List.all_eq_true.1 h y hy)
  | any => trivial
  | tup ts => trivial
theorem okVB_ok {n : Nat} {x : AV} (h : okVB n x = true) : x.ok n := by
  cases x with
  | c x => exact okB_ok h
  | agg cs => intro y hy; exact okB_ok (List.all_eq_true.1 h y hy)
  | any => trivial
  | tup ts => intro y hy; exact ok1B_ok (List.all_eq_true.1 h y hy)
theorem okOB_ok {n : Nat} {o : AObj} (h : okOB n o = true) : o.okN n := by
  cases o with
  | row ty sz els own =>
    intro e he
    have := List.all_eq_true.1 h e he
    simp only [Bool.and_eq_true, beq_iff_eq, List.all_eq_true] at this
    exact ⟨this.1, fun x hx => okB_ok (this.2 x hx)⟩
  | map _ _ _ => cases h
  | dead => trivial
theorem hok_of {A : Hp} (h : A.all (okOB A.length) = true) : HOk A := fun i o hi => okOB_ok (List.all_eq_true.1 h o (List.mem_of_getElem? hi))
/-- what is handed back; what the call made is forgotten, if nothing tells of it -/
def eRet (n : Nat) (v : AV) (H : Hp) : Res :=
  if n ≤ H.length then (if okVB n v = true ∧ (H.take n).all (okOB n) = true then some (v, H.take n) else some (v, H)) else none
theorem eRet_ok {n : Nat} {v v' : AV} {H H' : Hp} {K : AV → Hp → Prop} (h : eRet n v H = some (v', H')) (hk : K v' H') : Ret n v H K := by
  unfold eRet at h
  split at h
  · rename_i hn
    have hl : (H.take n).length = n := by rw [List.length_take]; omega
    split at h
    · rename_i h1
      injection h with h; injection h with e1 e2; subst e1; subst e2
      have h2 : (H.take n).all (okOB (H.take n).length) = true := by rw [hl]; exact h1.2
      have := Ret.drop (G := H.drop n) (n := n) (hok_of h2) (by omega) (by rw [hl]; exact okVB_ok h1.1) hk
      rwa [List.take_append_drop] at this
    · injection h with h; injection h with e1 e2; subst e1; subst e2
      exact Ret.same hn hk
  · cases h
def eEnd (P : Program) (fn : Func) (n : Nat) (r : Option (AExit × Fr × Hp)) : Res := match r with
  | some (.exit _, _, _) => none
  | some (_, F, H) => (match resA P fn F H with | some v => eRet n v H | none => none)
  | none => none
/-- calls are run; some are answered by what is known of them -/
def eCall (P : Program) (spec ext : FuncId → List AV → Hp → Res) : Nat → FuncId → List AV → Hp → Res
  | 0 => fun _ _ _ => none
  | k + 1 => fun f args H => match spec f args H with
    | some r => some r
    | none => match P.funcs[f]? with
      | some fn => (match fn.body with
        | some c => if codeOk fn.ntmps c = true ∧ args.length ≤ fn.ntmps then eEnd P fn H.length (eCode P (eCall P spec ext k) ext c (F0 args) H) else none
        | none => none)
      | none => none
theorem eCall_ok {P : Program} {spec ext : FuncId → List AV → Hp → Res} (hs : CallOk P spec) (he : ExtOk P ext) : ∀ k, CallOk P (eCall P spec ext k)
  | 0 => fun f args H v H' K h _ => by simp [eCall] at h
  | k + 1 => fun f args H v H' K h hk => by
    unfold eCall at h
    split at h
    · rename_i r hr
      injection h with h
      subst h
      exact hs _ _ _ _ _ _ hr hk
    split at h
    · rename_i fn hf
      split at h
      · rename_i c hb
        split at h
        · rename_i h1
          refine acalls hf hb h1.1 h1.2 fun _ => ?_
          unfold eEnd at h
          split at h
          · cases h
          · rename_i e F H1 hne he1
            refine eCode_ok (eCall_ok hs he k) he c h1.1 he1 ?_
            split at h
            · rename_i v1 hv
              have h2 : aRet P fn H.length K F H1 := by unfold aRet; rw [hv]; exact eRet_ok h hk
              cases e with
              | exit id => exact absurd rfl (hne _)
              | normal => exact h2
              | ret => exact h2
            · cases h
          · cases h
        · cases h
      · cases h
    · cases h
def noExt : FuncId → List AV → Hp → Res := fun _ _ _ => none
theorem noExt_ok {P : Program} : ExtOk P noExt := fun _ _ _ _ _ _ h _ => by cases h
theorem noSpec_ok {P : Program} : CallOk P noExt := fun _ _ _ _ _ _ h _ => by cases h
/-- A CALL RUN BY ITSELF, whatever else there is: it takes and hands back plain values. -/
theorem ACalls.run0S {P : Program} {f : FuncId} {args : List AV} {H : Hp} {K : AV → Hp → Prop} (spec ext : FuncId → List AV → Hp → Res) (hs : CallOk P spec) (he : ExtOk P ext) (k : Nat) (v : AV) (h : (eCall P spec ext k f args []).map (·.1) = some v) (hv : flatV v = true) (hn : args.all (ok1B 0) = true) (hk : K v H) : ACalls P f args H K := by
  intro B w0 ι w vs hs' hr ho
  obtain ⟨⟨v1, H1⟩, h1, h2⟩ := Option.map_eq_some_iff.1 h
  dsimp only at h2
  subst h2
  have h3 : ACalls P f args [] (fun v' _ => v' = v1) := eCall_ok hs he k _ _ _ _ _ _ h1 rfl
  refine (h3 w.heap.size w ι w vs hs'.none hr (fun x hx => ok1B_ok (List.all_eq_true.1 hn x hx))).mono fun e w' he => ?_
  obtain ⟨ι2, u, av, H', rfl, k2, k3, k4, k5, k6, hav⟩ := he
  rw [hav] at k5
  have hb := k4.below
  have hg : w.grownBy w' none := ⟨hb.os, hb.tape, hb.output, hb.size, fun k hk _ => hb.block k hk⟩
  exact ⟨ι, u, v1, H, rfl, Agree.refl _ _, Nat.le_refl _, hs'.grown hg, flat_rel hv k5, flat_ok hv _, hk⟩
theorem ACalls.run0E {P : Program} {f : FuncId} {args : List AV} {H : Hp} {K : AV → Hp → Prop} (ext : FuncId → List AV → Hp → Res) (he : ExtOk P ext) (k : Nat) (v : AV) (h : (eCall P noExt ext k f args []).map (·.1) = some v) (hv : flatV v = true) (hn : args.all (ok1B 0) = true) (hk : K v H) : ACalls P f args H K := ACalls.run0S noExt ext noSpec_ok he k v h hv hn hk
theorem ACalls.run0 {P : Program} {f : FuncId} {args : List AV} {H : Hp} {K : AV → Hp → Prop} (k : Nat) (v : AV) (h : (eCall P noExt noExt k f args []).map (·.1) = some v) (hv : flatV v = true) (hn : args.all (ok1B 0) = true) (hk : K v H) : ACalls P f args H K := ACalls.run0S noExt noExt noSpec_ok noExt_ok k v h hv hn hk
end Go.Proofs.Ytbgoaanalfdenaa
