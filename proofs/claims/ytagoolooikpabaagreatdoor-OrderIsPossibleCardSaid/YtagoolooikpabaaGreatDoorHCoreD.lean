/- Several texts in one: Plain code run: what the abstract machine answers where all is known, computed, and what follows. No condition. -/
import Derived.Test.YtagoolooikpabaaGreatDoorHCoreC
import Derived.LoopNIn
set_option linter.all false
namespace Go.Proofs.YtagoolooikpabaaGreatDoor
open Go Go.RowKit
set_option maxHeartbeats 1000000
abbrev Res := Option (AV × Hp)
def eK (k k' : IntKind) (v : AC) : Option AC := if k = k' then some v else none
def eBin (op : BinOp) (x y : AV) : Option AC :=
 match op, x, y with
 | .add, .c (.int k a), .c (.int k' b) => eK k k' (.int k (k.wrap (a + b)))
 | .sub, .c (.int k a), .c (.int k' b) => eK k k' (.int k (k.wrap (a - b)))
 | .mul, .c (.int k a), .c (.int k' b) => eK k k' (.int k (k.wrap (a * b)))
 | .quo, .c (.int k a), .c (.int k' b) => if b = 0 then none else eK k k' (.int k (k.wrap (a.tdiv b)))
 | .rem, .c (.int k a), .c (.int k' b) => if b = 0 then none else eK k k' (.int k (a.tmod b))
 | .and, .c (.int k a), .c (.int k' b) => eK k k' (.int k (k.wrap (BitVec.ofInt k.bits a &&& BitVec.ofInt k.bits b).toNat))
 | .or, .c (.int k a), .c (.int k' b) => eK k k' (.int k (k.wrap (BitVec.ofInt k.bits a ||| BitVec.ofInt k.bits b).toNat))
 | .xor, .c (.int k a), .c (.int k' b) => eK k k' (.int k (k.wrap (BitVec.ofInt k.bits a ^^^ BitVec.ofInt k.bits b).toNat))
 | .shl, .c (.int k a), .c (.int _ b) => if 0 ≤ b then some (.int k (k.wrap (a * 2 ^ (min b.toNat k.bits)))) else none
 | .shr, .c (.int k a), .c (.int _ b) => if 0 ≤ b then some (.int k (a.fdiv (2 ^ (min b.toNat k.bits)))) else none
 | .eql, .c (.int k a), .c (.int k' b) => eK k k' (.bool (a == b))
 | .neq, .c (.int k a), .c (.int k' b) => eK k k' (.bool (a != b))
 | .lss, .c (.int k a), .c (.int k' b) => eK k k' (.bool (decide (a < b)))
 | .leq, .c (.int k a), .c (.int k' b) => eK k k' (.bool (decide (a ≤ b)))
 | .gtr, .c (.int k a), .c (.int k' b) => eK k k' (.bool (decide (b < a)))
 | .geq, .c (.int k a), .c (.int k' b) => eK k k' (.bool (decide (b ≤ a)))
 | .add, .c (.str a), .c (.str b) => if a.size + b.size ≤ 9223372036854775807 then some (.str (a ++ b)) else none
 | .eql, .c (.str a), .c (.str b) => some (.bool (a.toList == b.toList))
 | .neq, .c (.str a), .c (.str b) => some (.bool (!(a.toList == b.toList)))
 | .lss, .c (.str a), .c (.str b) => some (.bool (Op.bytesLess a.toList b.toList))
 | .leq, .c (.str a), .c (.str b) => some (.bool (Op.bytesLess a.toList b.toList || a.toList == b.toList))
 | .gtr, .c (.str a), .c (.str b) => some (.bool (!(Op.bytesLess a.toList b.toList || a.toList == b.toList)))
 | .geq, .c (.str a), .c (.str b) => some (.bool (!(Op.bytesLess a.toList b.toList)))
 | _, _, _ => none
theorem eK_ok {k k' : IntKind} {u v : AC} (h : eK k k' u = some v) : k = k' ∧ u = v := by
 unfold eK at h; split at h
 ·exact ⟨by assumption, by injection h⟩
 ·cases h
theorem eBin_ok {op : BinOp} {x y : AV} {v : AC} {K : AV → Prop} (h : eBin op x y = some v) (hk : K (.c v)) : aBin op x y K := by
 unfold eBin at h
 split at h
 all_goals first
  | (obtain ⟨h1, rfl⟩ := eK_ok h; exact ⟨h1, hk⟩)
  | (split at h
     ·cases h
     ·obtain ⟨h1, rfl⟩ := eK_ok h; exact ⟨h1, by assumption, hk⟩)
  | (split at h
     ·injection h with h; subst h; exact ⟨by assumption, hk⟩
     ·cases h)
  | (injection h with h; subst h; exact hk)
  | cases h
def eBinT (P : Program) (t : TypeId) (op : BinOp) (x y : AV) : Option AC :=
 match op, x, y with
 | .eql, .c (.bool a), .c (.bool b) => if kindT P t = 1 then some (.bool (a == b)) else none
 | .neq, .c (.bool a), .c (.bool b) => if kindT P t = 1 then some (.bool (!(a == b))) else none
 | .eql, .c (.ptr r), .c (.ptr none) => if kindT P t = 2 then some (.bool r.isNone) else none
 | .neq, .c (.ptr r), .c (.ptr none) => if kindT P t = 2 then some (.bool (!r.isNone)) else none
 | .eql, .c (.fp _), .c (.ptr none) => if kindT P t = 2 then some (.bool false) else none
 | .neq, .c (.fp _), .c (.ptr none) => if kindT P t = 2 then some (.bool true) else none
 | .eql, .c (.sl r _), .c (.sl none _) => if kindT P t = 3 then some (.bool r.isNone) else none
 | .neq, .c (.sl r _), .c (.sl none _) => if kindT P t = 3 then some (.bool (!r.isNone)) else none
 | .eql, .agg xs, .agg ys => (match (fieldsK P t).bind (fun l => eqF l xs ys) with | some b => some (.bool b) | none => none)
 | .neq, .agg xs, .agg ys => (match (fieldsK P t).bind (fun l => eqF l xs ys) with | some b => some (.bool (!b)) | none => none)
 | op, x, y => eBin op x y
theorem eBin_dom {op : BinOp} {x y : AV} {v : AC} (h : eBin op x y = some v) : (∃ k a k' b, x = .c (.int k a) ∧ y = .c (.int k' b)) ∨ ∃ a b, x = .c (.str a) ∧ y = .c (.str b) := by
 unfold eBin at h
 split at h
 all_goals first
  | exact .inl ⟨_, _, _, _, rfl, rfl⟩
  | exact .inr ⟨_, _, rfl, rfl⟩
  | cases h
theorem eBinT_ok {P : Program} {t : TypeId} {op : BinOp} {x y : AV} {v : AC} {K : AV → Prop} (h : eBinT P t op x y = some v) (hk : K (.c v)) : aBinT P t op x y K := by
 unfold eBinT at h
 split at h
 all_goals first
  | (split at h
     ·injection h with h; subst h; exact ⟨by assumption, hk⟩
     ·cases h)
  | (split at h
     ·injection h with h; subst h; exact ⟨_, by assumption, hk⟩
     ·cases h)
  | skip
 have := eBin_ok (K := K) h hk
 rcases eBin_dom h with ⟨k, a, k', b, rfl, rfl⟩ | ⟨a, b, rfl, rfl⟩
 ·cases op <;> exact this
 ·cases op <;> exact this
def eBinN (P : Program) (t : TypeId) (op : BinOp) (x y : AV) (nl : Bool) : Option AC :=
 match x with
 | .c (.lst _ (_ :: _)) => (match nl, op, y with
  | true, .eql, .c (.sl none _) => if kindT P t = 3 then some (.bool false) else none
  | true, .neq, .c (.sl none _) => if kindT P t = 3 then some (.bool true) else none
  | _, _, _ => none)
 | .c (.lst _ []) => none
 | _ => eBinT P t op x y
theorem eBinN_ok {P : Program} {t : TypeId} {op : BinOp} {x y : AV} {nl : Bool} {v : AC} {K : AV → Prop} (h : eBinN P t op x y nl = some v) (hk : K (.c v)) : aBinN P t op x y nl K := by
 unfold eBinN at h
 split at h
 ·split at h
  ·split at h
   ·injection h with h; subst h; exact ⟨by assumption, fun b hb => by rw [hb (by simp)]; exact hk⟩
   ·cases h
  ·split at h
   ·injection h with h; subst h; exact ⟨by assumption, fun b hb => by rw [hb (by simp)]; exact hk⟩
   ·cases h
  ·cases h
 ·cases h
 ·rename_i h1 h2
  have hn : ∀ sz els, x ≠ .c (.lst sz els) := by
   intro sz els hx
   cases els with
   | nil => exact h2 _ hx
   | cons y ys => exact h1 _ _ _ hx
  have := eBinT_ok (K := K) h hk
  cases x with
  | c x =>
   cases x with
   | lst sz els => exact absurd rfl (hn _ _)
   | _ => cases nl <;> cases op <;> exact this
  | _ => cases nl <;> cases op <;> exact this
def eNilI (P : Program) (t : TypeId) (op : BinOp) (x : AV) : Option AC :=
 match op, x with
 | .eql, .c .nili => if kindT P t = 6 then some (.bool true) else none
 | .neq, .c .nili => if kindT P t = 6 then some (.bool false) else none
 | .eql, .c .ifc => if kindT P t = 6 then some (.bool false) else none
 | .neq, .c .ifc => if kindT P t = 6 then some (.bool true) else none
 | _, _ => none
def eBinO (P : Program) (t : TypeId) (op : BinOp) (x y : AV) (nl ni : Bool) : Option AC := match ni with
 | true => eNilI P t op x
 | false => eBinN P t op x y nl
theorem eBinO_ok {P : Program} {t : TypeId} {op : BinOp} {x y : AV} {nl ni : Bool} {v : AC} {K : AV → Prop} (h : eBinO P t op x y nl ni = some v) (hk : K (.c v)) : aBinO P t op x y nl ni K := by
 cases ni with
 | false => exact eBinN_ok h hk
 | true =>
  have h : eNilI P t op x = some v := h
  show aNilI P t op x K
  unfold eNilI at h; unfold aNilI
  split at h
  all_goals first
   | (split at h
      ·injection h with h; subst h; exact ⟨by assumption, hk⟩
      ·cases h)
   | cases h
/-! ### builtins -/
def eOwn (P : Program) (H : Hp) (e : Nat) (r : Option (Nat × Nat)) (n : Nat) : Option (List (List AC)) := match r with
 | none => if n = 0 then some [] else none
 | some p => match H[p.1]? with
  | some (.row e' sz els true) => if p.2 = 0 ∧ e' = e ∧ sz = szT P e ∧ n ≤ els.length then some els else none
  | _ => none
theorem eOwn_ok {P : Program} {H : Hp} {e : Nat} {r : Option (Nat × Nat)} {n : Nat} {els : List (List AC)} (h : eOwn P H e r n = some els) : ownA P H e r n els := by
 unfold eOwn at h
 unfold ownA
 split at h
 ·split at h
  ·injection h with h; subst h; exact ⟨by assumption, rfl⟩
  ·cases h
 ·split at h
  ·rename_i p e' sz els' h1
   split at h
   ·rename_i h2
    injection h with h; subst h
    obtain ⟨g1, rfl, rfl, g2⟩ := h2
    exact ⟨g1, h1, g2⟩
   ·cases h
  ·cases h
def eSrc (P : Program) (H : Hp) (e : Nat) (r2 : Option (Nat × Nat)) (m : Nat) : Option (List (List AC)) := match r2 with
 | none => none
 | some p => match H[p.1]? with
  | some (.row _ sz els _) => if sz = szT P e ∧ p.2 + m ≤ els.length then some ((els.drop p.2).take m) else none
  | _ => none
theorem eSrc_ok {P : Program} {H : Hp} {e : Nat} {r : Option (Nat × Nat)} {m : Nat} {new : List (List AC)} (h : eSrc P H e r m = some new) : srcA P H e r m new := by
 unfold eSrc at h
 unfold srcA
 split at h
 ·cases h
 ·split at h
  ·rename_i p e' sz els own h1
   split at h
   ·rename_i h2
    injection h with h; subst h
    obtain ⟨rfl, g2⟩ := h2
    exact ⟨e', els, own, h1, g2, rfl⟩
   ·cases h
  ·cases h
def eApp (P : Program) (H : Hp) (e : Nat) (r : Option (Nat × Nat)) (n m : Nat) (new : Option (List (List AC))) : Res :=
 if (zeroT P e).map (·.length) = some (szT P e) then
  (if m = 0 then some (.c (.sl r n), H) else match eOwn P H e r n, new with
   | some els, some new => if 0 < szT P e ∧ (n + m) * P.bytesOf e ≤ 140737488355328 ∧ n + m ≤ 9223372036854775807 then some (.c (.sl (some (H.length, 0)) (n + m)), killA r H ++ [.row e (szT P e) (els.take n ++ new) true]) else none
   | _, _ => none)
 else none
def eClr (H : Hp) (r : Option (Nat × Nat)) (n : Nat) (s : Nat) (z : Option Nat) : Res := match r with
 | some p => match H[p.1]? with
  | some (.row ty sz els true) => if s = sz ∧ z = some sz ∧ p.2 + n = els.length then some (.tup [], H.set p.1 (.row ty sz (els.take p.2) true)) else none
  | _ => none
 | none => none
def eLenM (ob : Option AObj) (H : Hp) : Res := match ob with
 | some (.map _ (_ + 1) es) => some (.c (.int .i64 es.length), H)
 | _ => none
def eBuiltin (P : Program) (b : Builtin) (ts : Array TypeId) (as : List AV) (H : Hp) : Res :=
 match b, ts.toList, as with
 | .len, [t], [.c (.sl _ n)] => if (elemT P t).isSome = true then some (.c (.int .i64 n), H) else none
 | .len, [t], [.c (.lst _ els)] => if (elemT P t).isSome = true then some (.c (.int .i64 els.length), H) else none
 | .len, [t], [.c (.str s)] => if strT P t = true then some (.c (.int .i64 s.size), H) else none
 | .min, _, [.c (.int k x), .c (.int _ y)] => some (.c (.int k (if y < x then y else x)), H)
 | .max, _, [.c (.int k x), .c (.int _ y)] => some (.c (.int k (if x < y then y else x)), H)
 | .append, [t, t'], [.c (.sl r n), .c (.sl r2 m)] => if t = t' then (match elemT P t with
   | some e => eApp P H e r n m (eSrc P H e r2 m)
   | none => none) else none
 | .append, [t, t'], [.c (.sl r n), .c (.lst sz new)] => if t = t' then (match elemT P t with
   | some e => if sz = szT P e then eApp P H e r n new.length (some new) else none
   | none => none) else none
 | .append, [t, t'], [.c (.sl none 0), .c (.int _ m)] => if intT P t' = true then (match elemT P t with
   | some e => (match zeroT P e with
    | some z => if z.length = szT P e ∧ 0 < szT P e ∧ 0 < m ∧ m * P.bytesOf e ≤ 140737488355328 ∧ m ≤ 9223372036854775807 then some (.c (.sl (some (H.length, 0)) m.toNat), H ++ [.row e (szT P e) (List.replicate m.toNat z) true]) else none
    | none => none)
   | none => none) else none
 | .clear, [t], [.c (.sl r n)] => (match n, elemT P t with
   | 0, some _ => some (.tup [], H)
   | n + 1, some e => eClr H r (n + 1) (szT P e) ((zeroT P e).map (·.length))
   | _, none => none)
 | .cap, [t], [.c (.sl none _)] => if (elemT P t).isSome = true then some (.c (.int .i64 0), H) else none
 | .len, [t], [.c (.map (some i))] => if isMapT t = true ∧ (mapK P t).isSome = true then eLenM H[i]? H else none
 | _, _, _ => none
theorem strT_spec {P : Program} {t : TypeId} (h : strT P t = true) : P.underlying t = some .string := by
 unfold strT at h; split at h
 ·assumption
 ·cases h
section
variable {P : Program} {H H' : Hp} {K : AV → Hp → Prop} {v : AV}
theorem eClr_ok {r : Option (Nat × Nat)} {n s : Nat} {z : Option Nat} (h : eClr H r n s z = some (v, H')) (hk : K v H') : ∃ p, r = some p ∧ aClr2 H[p.1]? p.1 p.2 n s z H K := by
 cases r with
 | none => cases h
 | some p =>
  refine ⟨p, rfl, ?_⟩
  simp only [eClr] at h
  split at h
  ·rename_i ty sz els h1
   split at h
   ·rename_i h2
    injection h with h; injection h with e1 e2; subst e1; subst e2
    rw [h1]
    exact ⟨h2, hk⟩
   ·cases h
  ·cases h
theorem eBuiltin_ok {b : Builtin} {ts : Array TypeId} {as : List AV} (h : eBuiltin P b ts as H = some (v, H')) (hk : K v H') : aBuiltin P b ts as H K := by
 unfold eBuiltin at h
 split at h
 ·rename_i h1; unfold aBuiltin; rw [h1]
  split at h
  ·injection h with h; injection h with e1 e2; subst e1; subst e2; exact ⟨by assumption, hk⟩
  ·cases h
 ·rename_i h1; unfold aBuiltin; rw [h1]
  split at h
  ·injection h with h; injection h with e1 e2; subst e1; subst e2; exact ⟨by assumption, hk⟩
  ·cases h
 ·rename_i h1; unfold aBuiltin; rw [h1]
  split at h
  ·injection h with h; injection h with e1 e2; subst e1; subst e2; exact ⟨strT_spec (by assumption), hk⟩
  ·cases h
 ·unfold aBuiltin; injection h with h; injection h with e1 e2; subst e1; subst e2; exact hk
 ·unfold aBuiltin; injection h with h; injection h with e1 e2; subst e1; subst e2; exact hk
 ·rename_i h1; unfold aBuiltin; rw [h1]
  split at h
  ·rename_i h2
   refine ⟨h2, ?_⟩
   split at h
   ·rename_i e he
    rw [he]
    unfold eApp at h
    split at h
    ·rename_i hz
     refine ⟨hz, fun hm => ?_, fun hm => ?_⟩
     ·rw [if_pos hm] at h
      injection h with h; injection h with e1 e2; subst e1; subst e2; exact hk
     ·rw [if_neg (by omega)] at h
      split at h
      ·rename_i els new h3 h4
       split at h
       ·rename_i h5
        injection h with h; injection h with e1 e2; subst e1; subst e2
        exact ⟨els, new, eOwn_ok h3, eSrc_ok h4, h5.1, h5.2.1, h5.2.2, .inl hk⟩
       ·cases h
      ·cases h
    ·cases h
   ·cases h
  ·cases h
 ·rename_i h1; unfold aBuiltin; rw [h1]
  split at h
  ·rename_i h2
   refine ⟨h2, ?_⟩
   split at h
   ·rename_i e he
    rw [he]
    split at h
    ·rename_i hsz
     unfold eApp at h
     split at h
     ·rename_i hz
      refine ⟨hz, fun hm => ?_, fun hm => ?_⟩
      ·rw [if_pos hm] at h
       injection h with h; injection h with e1 e2; subst e1; subst e2; exact hk
      ·rw [if_neg (by omega)] at h
       split at h
       ·rename_i els new h3 h4
        injection h4 with h4; subst h4
        split at h
        ·rename_i h5
         injection h with h; injection h with e1 e2; subst e1; subst e2
         exact ⟨els, eOwn_ok h3, hsz, h5.1, h5.2.1, h5.2.2, hk⟩
        ·cases h
       ·cases h
     ·cases h
    ·cases h
   ·cases h
  ·cases h
 ·rename_i h1; unfold aBuiltin; rw [h1]
  split at h
  ·rename_i h2
   split at h
   ·rename_i e he
    split at h
    ·rename_i z hz
     split at h
     ·rename_i h3
      injection h with h; injection h with e1 e2; subst e1; subst e2
      refine ⟨rfl, rfl, h2, ?_⟩
      rw [he]
      dsimp only
      rw [hz]
      exact ⟨h3.1, h3.2.1, h3.2.2.1, h3.2.2.2.1, h3.2.2.2.2, hk⟩
     ·cases h
    ·cases h
   ·cases h
  ·cases h
 ·rename_i h1; unfold aBuiltin; rw [h1]
  split at h
  ·rename_i e he
   injection h with h; injection h with e1 e2; subst e1; subst e2
   simp only [he, aClr]; exact hk
  ·rename_i n e he
   obtain ⟨p, rfl, h2⟩ := eClr_ok (K := K) h hk
   simp only [he, aClr, Option.elim_some, Option.bind_some]
   exact h2
  ·cases h
 ·rename_i h1; unfold aBuiltin; rw [h1]
  split at h
  ·injection h with h; injection h with e1 e2; subst e1; subst e2; exact ⟨rfl, by assumption, hk⟩
  ·cases h
 ·rename_i h1; unfold aBuiltin; rw [h1]
  split at h
  ·refine ⟨by assumption, ?_⟩
   unfold eLenM at h
   split at h
   ·rename_i h2; rw [h2]; injection h with h; injection h with e1 e2; subst e1; subst e2; exact ⟨Nat.succ_ne_zero _, hk⟩
   ·cases h
  ·cases h
 ·cases h
end
end Go.Proofs.YtagoolooikpabaaGreatDoor
namespace Go.Proofs.YtagoolooikpabaaGreatDoor
open Go Go.RowKit
set_option maxHeartbeats 1000000
def eIf (c : Prop) [Decidable c] (v : AV) (H : Hp) : Res := if c then some (v, H) else none
def eOf (x : Option AC) (H : Hp) : Res := match x with | some u => some (.c u, H) | none => none
def ePick (c u v : AV) (H : Hp) : Res := match c with
 | .c (.bool t) => (match u, v with
  | .c (.bool p), .c (.bool q) => some (.c (.bool (bif t then p else q)), H)
  | u, v => some (bif t then u else v, H))
 | _ => none
def eUn (op : UnOp) (v : AV) (H : Hp) : Res := match op, v with
 | .not, .c (.bool b) => some (.c (.bool (!b)), H)
 | .neg, .c (.int k n) => some (.c (.int k (k.wrap (0 - n))), H)
 | _, _ => none
def eNew (t : TypeId) (cs : Option (List AC)) (H : Hp) : Res := match cs with
 | some cs => some (.c (.ptr (some (H.length, 0, 0))), H ++ [.row t cs.length [cs] true])
 | none => none
def eBuild (cs : Option (List AC)) (ok : Bool) (H : Hp) : Res := match cs with
 | some cs => eIf (ok = true) (.agg cs) H
 | none => none
def eLit (e : Option Nat) (sz : Nat) (z : Bool) (els : Option (List (List AC))) (n m : Nat) (H : Hp) : Res := match e, els with
 | some e, some els => if n = m ∧ 0 < sz ∧ n * sz ≤ 16777216 ∧ z = true then some (.c (.sl (some (H.length, 0)) n), H ++ [.row e sz els true]) else none
 | _, _ => none
def eLd (e : Option (List AC)) (j : Nat) (ag : Bool) (sz : Nat) (i1 i2 : Bool) (H : Hp) : Res := match e, ag with
 | some e, true => eIf (i1 = true ∧ j + sz ≤ e.length) (.agg ((e.drop j).take sz)) H
 | some e, false => if i2 = true then eOf e[j]? H else none
 | none, _ => none
def eLoad (v : AV) (ag : Bool) (sz : Nat) (i1 i2 : Bool) (H : Hp) : Res := match v with
 | .c (.ptr (some (i, k, j))) => eLd (elAt H i k) j ag sz i1 i2 H
 | .c (.fp cs) => eLd (some cs) 0 ag sz i1 i2 H
 | _ => none
def eSt3 (e : Option (List AC)) (ty sz : Nat) (els : List (List AC)) (i k j : Nat) (cs : List AC) (i1 : Bool) (szt : Nat) (H : Hp) : Res := match e with
 | some e => eIf (i1 = true ∧ szt = cs.length ∧ j + cs.length ≤ sz) .any (H.set i (.row ty sz (els.set k (setC e j cs)) true))
 | none => none
def eSt2 (ob : Option AObj) (i k j : Nat) (cs : List AC) (i1 : Bool) (szt : Nat) (H : Hp) : Res := match ob with
 | some (.row ty sz els true) => eSt3 els[k]? ty sz els i k j cs i1 szt H
 | _ => none
def eSt (v : AV) (cs : Option (List AC)) (i1 : Bool) (szt : Nat) (H : Hp) : Res := match v, cs with
 | .c (.ptr (some (i, k, j))), some cs => eSt2 H[i]? i k j cs i1 szt H
 | _, _ => none
def eNil (v : AV) (H : Hp) : Res := match v with
 | .c (.ptr (some p)) => some (.c (.ptr (some p)), H)
 | .c (.fp cs) => some (.c (.fp cs), H)
 | _ => none
def eFld (v : AV) (f : Option (Nat × Nat)) (H : Hp) : Res := match v, f with
 | .c (.ptr (some (i, k, j))), some (o, n) => if n ≠ 0 then some (.c (.ptr (some (i, k, j + o))), H) else none
 | .c (.fp cs), some (o, n) => if n ≠ 0 then some (.c (.fp (cs.drop o)), H) else none
 | _, _ => none
def eIx2 (ob : Option AObj) (i k n : Nat) (q : Int) (s : Nat) (i1 : Bool) (H : Hp) : Res := match ob with
 | some (.row _ sz _ _) => eIf (s = sz ∧ i1 = true ∧ 0 ≤ q ∧ q < n) (.c (.ptr (some (i, k + q.toNat, 0)))) H
 | _ => none
def eIxL (e : Option (List AC)) (n : Nat) (q : Int) (s sz : Nat) (i1 : Bool) (H : Hp) : Res := match e with
 | some e => eIf (s = sz ∧ i1 = true ∧ 0 ≤ q ∧ q < n) (.c (.fp e)) H
 | none => none
def eIx (v q : AV) (sz : Option Nat) (i1 : Bool) (H : Hp) : Res := match v, q, sz with
 | .c (.sl (some (i, k)) n), .c (.int _ q), some s => eIx2 H[i]? i k n q s i1 H
 | .c (.lst sz els), .c (.int _ q), some s => eIxL els[q.toNat]? els.length q s sz i1 H
 | _, _, _ => none
def eStr (v q : AV) (ok : Bool) (H : Hp) : Res := match v, q with
 | .c (.str s), .c (.int _ q) => eIf (ok = true ∧ 0 ≤ q ∧ q < s.size) (.c (.int .u8 (s.data.toList.getD q.toNat 0).toNat)) H
 | _, _ => none
def rowOkB (P : Program) (H : Hp) (e : Nat) (r : Option (Nat × Nat)) : Bool := match r with
 | none => true
 | some p => match H[p.1]? with
  | some (.row _ sz _ _) => sz == szT P e
  | _ => false
def eSub (v : AV) (mx : Bool) (l : Option Int) (hi : Option AV) (e : Option Nat) (P : Program) (str : Bool) (H : Hp) : Res := match v, mx, l with
 | .c (.sl r n), false, some l => (match e, hiOf hi n with
  | some e, some h => eIf ((P.info? e).isSome = true ∧ rowOkB P H e r = true ∧ 0 ≤ l ∧ l ≤ h ∧ h ≤ n) (.c (.sl (r.map fun p => (p.1, p.2 + l.toNat)) (h.toNat - l.toNat))) H
  | _, _ => none)
 | .c (.lst sz els), false, some l => (match e, hiOf hi els.length with
  | some e, some h => eIf ((P.info? e).isSome = true ∧ sz = szT P e ∧ 0 ≤ l ∧ l ≤ h ∧ h ≤ els.length) (.c (.lst sz ((els.drop l.toNat).take (h.toNat - l.toNat)))) H
  | _, _ => none)
 | .c (.str s), false, some l => (match hiOf hi s.size with
  | some h => eIf (str = true ∧ 0 ≤ l ∧ l ≤ h ∧ h ≤ s.size) (.c (.str (s.extract l.toNat h.toNat))) H
  | none => none)
 | _, _, _ => none
def eExt (v : AV) (ix : Nat) (H : Hp) : Res := match v with
 | .tup vs => (match vs[ix]? with | some v => some (v, H) | none => none)
 | _ => none
def eCallV (P : Program) (call ext : FuncId → List AV → Hp → Res) (v : AV) (as : List AV) (H : Hp) : Res := match v with
 | .c (.fn f fs cs) => if as.all noTup = true then (match entersB P f with
  | true => call f (ptrs fs ++ as ++ ptrs cs) H
  | false => ext f (ptrs fs ++ as ++ ptrs cs) H) else none
 | _ => none
def eMk (fn : Fn) (fs cs : Option (List (Nat × Nat × Nat))) (H : Hp) : Res := match fn, fs, cs with
 | .func f, some fs, some cs => some (.c (.fn f fs cs), H)
 | _, _, _ => none
def eCv (v : AV) (s1 : Bool) (k : Option IntKind) (str bt sb : Bool) (H : Hp) : Res := match v with
 | .c (.int _ n) => (match k with | some k => eIf (s1 = true) (.c (.int k (k.wrap n))) H | none => none)
 | .c (.str s) => (match bt with | true => eIf (s1 = true) (.c (.lst 1 (bytesL s))) H | false => eIf (s1 = true ∧ str = true) (.c (.str s)) H)
 | .c (.lst _ els) => (match unbyte els with | some l => eIf (sb = true ∧ str = true) (.c (.str ⟨l.toArray⟩)) H | none => none)
 | _ => none
def ePutM (bs : List Nat) (vt : Nat) (i : Nat) (es : Option (List (AV × AV))) (H : Hp) : Res := match es with
 | some es => if vt ≠ 0 then some (.any, H.set i (.map (bornsOf bs vt es.length) (clockOf bs vt es.length) es)) else none
 | none => none
def eMapUp2 (P : Program) (ob : Option AObj) (i : Nat) (kt : TypeId) (k v : AV) (H : Hp) : Res := match ob with
 | some (.map a b es) => if keyOk P kt k = true then ePutM a b i (mapPut P kt k v es) H else none
 | _ => none
def eMapUp (P : Program) (kt : Option TypeId) (m k v : AV) (H : Hp) : Res := match m, kt with
 | .c (.map (some i)), some kt => eMapUp2 P H[i]? i kt k v H
 | _, _ => none
def eGetM (r : Option (AV × Bool)) (ok : Bool) (H : Hp) : Res := match r with
 | some (v, b) => if noTup v = true then some (bif ok then .tup [v, .c (.bool b)] else v, H) else none
 | none => none
def eLook2 (P : Program) (ob : Option AObj) (kt : TypeId) (z : Option AV) (k : AV) (ok : Bool) (H : Hp) : Res := match ob with
 | some (.map _ vt es) => if vt ≠ 0 ∧ keyOk P kt k = true then eGetM (mapGet P kt k z es) ok H else none
 | _ => none
def eLook (P : Program) (kt : Option TypeId) (z : Option AV) (m k : AV) (ok : Bool) (H : Hp) : Res := match m, kt with
 | .c (.map (some i)), some kt => eLook2 P H[i]? kt z k ok H
 | .c (.map none), some kt => if keyOk P kt k = true then eGetM (z.map fun z => (z, false)) ok H else none
 | _, _ => none
def eNewM (r : Bool) (H : Hp) : Res := match r with
 | false => some (.c (.map (some H.length)), H ++ [.map [] 1 []])
 | true => none
def eIfc (c : Bool) (v : AV) (H : Hp) : Res := match v with
 | .tup _ => none
 | _ => eIf (c = true) (.c .ifc) H
def eFd (v : AV) (f : Option (Nat × Nat × Bool)) (H : Hp) : Res := match v, f with
 | .agg cs, some (o, n, true) => eIf (o + n ≤ cs.length) (.agg ((cs.drop o).take n)) H
 | .agg cs, some (o, _, false) => eOf cs[o]? H
 | _, _ => none
def eAC (x : Option AC) (H : Hp) : Res := match x with | some u => some (.c u, H) | none => none
def eOp (P : Program) (call ext : FuncId → List AV → Hp → Res) (op : Op) (ev : Operand → AV) (H : Hp) : Res :=
 match op with
 | .move x | .assign x => some (ev x, H)
 | .pick c x y => ePick (ev c) (ev x) (ev y) H
 | .binOp op t x y _ => eAC (eBinO P t op (ev x) (ev y) (isNilS y) (isNilI y)) H
 | .unOp op _ x => eUn op (ev x) H
 | .alloc t => eNew t (zeroT P t) H
 | .box t x => eNew t (ev x).cells H
 | .build t ps => eBuild ((zeroT P t).bind fun z => buildAt P t z (partsOf ps.toList ev)) (fieldsOk P t) H
 | .buildSlice t n ps => eLit (elemT P t) ((elemT P t).elim 0 (szT P)) ((elemT P t).elim false fun e => (zeroT P e).isSome) ((elemT P t).bind fun e => litEls (szT P e) 0 (partsOf ps.toList ev)) n ps.size H
 | .load t x => eLoad (ev x) (aggT P t) (szT P t) (P.info? t).isSome (P.underlying t).isSome H
 | .store t x y => eSt (ev x) (ev y).cells (P.info? t).isSome (szT P t) H
 | .nilCheck x => eNil (ev x) H
 | .fieldAddr s x f => eFld (ev x) (fieldT P s f) H
 | .indexAddr t x ix => eIx (ev x) (ev ix) ((elemT P t).map (szT P)) ((elemT P t).elim false fun e => (P.info? e).isSome) H
 | .index t x ix => eStr (ev x) (ev ix) (strT P t) H
 | .slice t x lo hi mx => eSub (ev x) mx.isSome (loOf (lo.map ev)) (hi.map ev) (elemT P t) P (strT P t) H
 | .makeFunc f fs cs => eMk f (ptrsOf (fs.toList.map ev)) (ptrsOf (cs.toList.map ev)) H
 | .convert s d x => eCv (ev x) (P.underlying s).isSome (intK P d) (strT P d) (bytesT P d) (bytesT P s) H
 | .makeInterface t x => eIfc (conT P t) (ev x) H
 | .makeMap _ r => eNewM r.isSome H
 | .mapUpdate t m k x => eMapUp P (mapK P t) (ev m) (ev k) (ev x) H
 | .lookup t x ix ok => eLook P (mapK P t) ((mapE P t).bind (zeroA P)) (ev x) (ev ix) ok H
 | .field s x f => eFd (ev x) (fieldK P s f) H
 | .extract x ix => eExt (ev x) ix H
 | .call c => match c.callee with
  | .builtin b => eBuiltin P b c.argTypes (c.args.toList.map ev) H
  | .value f => eCallV P call ext (ev f) (c.args.toList.map ev) H
  | _ => none
 | _ => none
section
variable {P : Program} {H H' : Hp} {K : AV → Hp → Prop} {v : AV}
theorem eIf_ok {c : Prop} [Decidable c] {u : AV} (h : eIf c u H = some (v, H')) (hk : K v H') : aIf c u H K := by
 unfold eIf at h; split at h
 ·injection h with h; injection h with e1 e2; subst e1; subst e2; exact ⟨by assumption, hk⟩
 ·cases h
theorem eOf_ok {x : Option AC} (h : eOf x H = some (v, H')) (hk : K v H') : aOf x H K := by
 unfold eOf at h; split at h
 ·injection h with h; injection h with e1 e2; subst e1; subst e2; exact hk
 ·cases h
theorem eLd_ok {e : Option (List AC)} {j : Nat} {ag : Bool} {sz : Nat} {i1 i2 : Bool} (h : eLd e j ag sz i1 i2 H = some (v, H')) (hk : K v H') : aLd e j ag sz i1 i2 H K := by
 unfold eLd at h; split at h
 ·exact eIf_ok h hk
 ·split at h
  ·exact ⟨by assumption, eOf_ok h hk⟩
  ·cases h
 ·cases h
theorem rowOkB_ok {e : Nat} {r : Option (Nat × Nat)} (h : rowOkB P H e r = true) : rowOk P H e r := by
 unfold rowOkB at h
 unfold rowOk
 split
 ·trivial
 ·rename_i p
  dsimp only at h
  split at h
  ·rename_i _ sz _ _ h1
   rw [h1]
   simpa using h
  ·cases h
def CallOk (P : Program) (call : FuncId → List AV → Hp → Res) : Prop := ∀ f args H v H' K, call f args H = some (v, H') → K v H' → ACalls P f args H K
def ExtOk (P : Program) (ext : FuncId → List AV → Hp → Res) : Prop := ∀ f args H v H' K, ext f args H = some (v, H') → K v H' → AExt P f args H K
theorem eOp_ok {call ext : FuncId → List AV → Hp → Res} (hc : CallOk P call) (he : ExtOk P ext) {op : Op} {ev : Operand → AV} (h : eOp P call ext op ev H = some (v, H')) (hk : K v H') : aOp P op ev H K := by
 cases op <;> simp only [eOp] at h <;> first | cases h; done | skip
 case move x => injection h with h; injection h with e1 e2; subst e1; subst e2; exact hk
 case assign x => injection h with h; injection h with e1 e2; subst e1; subst e2; exact hk
 case pick c x y =>
  simp only [aOp]
  unfold ePick at h
  unfold aPick
  split at h
  ·rename_i t ht
   rw [ht]
   dsimp only
   split at h
   ·rename_i p q hp hq
    rw [hp, hq]
    injection h with h; injection h with e1 e2; subst e1; subst e2; exact hk
   ·rename_i hn
    injection h with h; injection h with e1 e2; subst e1; subst e2
    split
    ·rename_i p q hp hq
     exact absurd hq (hn _ _ hp)
    ·exact hk
  ·cases h
 case binOp b t x y t2 =>
  unfold eAC at h
  split at h
  ·rename_i u hu
   injection h with h; injection h with e1 e2; subst e1; subst e2
   exact eBinO_ok (K := fun v => K v H) hu hk
  ·cases h
 case unOp op t x =>
  simp only [aOp]
  unfold eUn at h
  split at h
  ·rename_i h1; rw [h1]; injection h with h; injection h with e1 e2; subst e1; subst e2; exact hk
  ·rename_i h1; rw [h1]; injection h with h; injection h with e1 e2; subst e1; subst e2; exact hk
  ·cases h
 case alloc t =>
  simp only [aOp]
  unfold eNew at h; unfold aNew
  split at h
  ·rename_i h1; rw [h1]; injection h with h; injection h with e1 e2; subst e1; subst e2; exact hk
  ·cases h
 case box t x =>
  simp only [aOp]
  unfold eNew at h; unfold aNew
  split at h
  ·rename_i h1; rw [h1]; injection h with h; injection h with e1 e2; subst e1; subst e2; exact hk
  ·cases h
 case build t ps =>
  simp only [aOp]
  unfold eBuild at h; unfold aBuild
  split at h
  ·rename_i h1; rw [h1]; exact eIf_ok h hk
  ·cases h
 case buildSlice t n ps =>
  simp only [aOp]
  unfold eLit at h; unfold aLit
  split at h
  ·rename_i h1 h2; rw [h2]
   split at h
   ·rename_i h3
    injection h with h; injection h with e1 e2; subst e1; subst e2
    obtain ⟨g1, g2, g3, g4⟩ := h3
    rw [h1] at g2 g3 g4 hk ⊢
    exact ⟨g1, g2, g3, g4, hk⟩
   ·cases h
  ·cases h
 case load t x =>
  simp only [aOp]
  unfold eLoad at h; unfold aLoad
  split at h
  ·rename_i h1; rw [h1]; exact eLd_ok h hk
  ·rename_i h1; rw [h1]; exact eLd_ok h hk
  ·cases h
 case store t x y =>
  simp only [aOp]
  unfold eSt at h; unfold aSt
  split at h
  ·rename_i i k j cs h1 h2; rw [h1, h2]
   unfold eSt2 at h; unfold aSt2
   dsimp only
   split at h
   ·rename_i h3; rw [h3]
    unfold eSt3 at h; unfold aSt3
    dsimp only
    split at h
    ·rename_i h4; rw [h4]
     unfold eIf at h
     split at h
     ·injection h with h; injection h with e1 e2; subst e1; subst e2; exact ⟨by assumption, hk⟩
     ·cases h
    ·cases h
   ·cases h
  ·cases h
 case nilCheck x =>
  simp only [aOp]
  unfold eNil at h; unfold aNil
  split at h
  ·rename_i h1; rw [h1]; injection h with h; injection h with e1 e2; subst e1; subst e2; exact hk
  ·rename_i h1; rw [h1]; injection h with h; injection h with e1 e2; subst e1; subst e2; exact hk
  ·cases h
 case fieldAddr s x f =>
  simp only [aOp]
  unfold eFld at h; unfold aFld
  split at h
  ·rename_i h1 h2; rw [h1, h2]
   split at h
   ·injection h with h; injection h with e1 e2; subst e1; subst e2; exact ⟨by assumption, hk⟩
   ·cases h
  ·rename_i h1 h2; rw [h1, h2]
   split at h
   ·injection h with h; injection h with e1 e2; subst e1; subst e2; exact ⟨by assumption, hk⟩
   ·cases h
  ·cases h
 case indexAddr t x ix =>
  simp only [aOp]
  unfold eIx at h; unfold aIx
  split at h
  ·rename_i h1 h2 h3; rw [h1, h2, h3]
   unfold eIx2 at h; unfold aIx2
   dsimp only
   split at h
   ·rename_i h4; rw [h4]; exact eIf_ok h hk
   ·cases h
  ·rename_i h1 h2 h3; rw [h1, h2, h3]
   unfold eIxL at h; unfold aIxL
   dsimp only
   split at h
   ·rename_i h4; rw [h4]; exact eIf_ok h hk
   ·cases h
  ·cases h
 case index t x ix =>
  simp only [aOp]
  unfold eStr at h; unfold aStr
  split at h
  ·rename_i h1 h2; rw [h1, h2]; exact eIf_ok h hk
  ·cases h
 case slice t x lo hi mx =>
  have hmx : mx.isSome = false → mxV (hi.map ev) (mx.map ev) (ev x) = ev x := by
   cases mx with
   | none => intro _; rfl
   | some m => intro h9; cases h9
  have hmb : mx.isSome = false → mxB (mx.map ev) (ev x) = false := by
   cases mx with
   | none => intro _; rfl
   | some m => intro h9; cases h9
  simp only [aOp]
  unfold eSub at h; unfold aSub
  split at h
  ·rename_i h1 h2 h3; rw [hmx h2, hmb h2, h1, h3]
   dsimp only
   split at h
   ·rename_i h4 h5; rw [h4, h5]
    unfold eIf at h
    split at h
    ·rename_i h6
     injection h with h; injection h with e1 e2; subst e1; subst e2
     obtain ⟨g1, g2, g3, g4, g5⟩ := h6
     exact ⟨⟨g1, rowOkB_ok g2, g3, g4, .inl g5⟩, hk⟩
    ·cases h
   ·cases h
  ·rename_i h1 h2 h3; rw [hmx h2, hmb h2, h1, h3]
   dsimp only
   split at h
   ·rename_i h4 h5; rw [h4, h5]; exact eIf_ok h hk
   ·cases h
  ·rename_i h1 h2 h3; rw [hmx h2, hmb h2, h1, h3]
   dsimp only
   split at h
   ·rename_i h4; rw [h4]; exact eIf_ok h hk
   ·cases h
  ·cases h
 case makeFunc f fs cs =>
  simp only [aOp]
  unfold eMk at h; unfold aMk
  split at h
  ·rename_i h1 h2; rw [h1, h2]; injection h with h; injection h with e1 e2; subst e1; subst e2; exact hk
  ·cases h
 case convert s d x =>
  simp only [aOp]
  unfold eCv at h; unfold aCv
  split at h
  ·rename_i h1; rw [h1]
   unfold aCv2
   dsimp only
   split at h
   ·rename_i h2; rw [h2]; exact eIf_ok h hk
   ·cases h
  ·rename_i h1; rw [h1]
   unfold aCvS
   dsimp only
   split at h
   ·rename_i h2; rw [h2]; exact eIf_ok h hk
   ·rename_i h2; rw [h2]; exact eIf_ok h hk
  ·rename_i h1; rw [h1]
   unfold aCvB
   dsimp only
   split at h
   ·rename_i h2; rw [h2]; exact eIf_ok h hk
   ·cases h
  ·cases h
 case makeMap t r =>
  simp only [aOp]
  cases r with
  | none => simp only [eNewM, Option.isSome_none] at h; injection h with h; injection h with e1 e2; subst e1; subst e2; exact hk
  | some _ => simp [eNewM] at h
 case mapUpdate t m k x =>
  simp only [aOp]
  unfold eMapUp at h; unfold aMapUp
  split at h
  ·rename_i i kt h1 h2
   rw [h1, h2]
   dsimp only
   unfold eMapUp2 at h; unfold aMapUp2
   split at h
   ·rename_i h3
    rw [h3]
    dsimp only
    split at h
    ·refine ⟨by assumption, ?_⟩
     unfold ePutM at h; unfold aPutM
     split at h
     ·rename_i h5
      rw [h5]
      split at h
      ·injection h with h; injection h with e1 e2; subst e1; subst e2; exact ⟨by assumption, hk⟩
      ·cases h
     ·cases h
    ·cases h
   ·cases h
  ·cases h
 case lookup t x ix ok =>
  have get : ∀ {r : Option (AV × Bool)}, eGetM r ok H = some (v, H') → aGetM r ok H K := by
   intro r h
   unfold eGetM at h; unfold aGetM
   split at h
   ·split at h
    ·injection h with h; injection h with e1 e2; subst e1; subst e2; exact ⟨by assumption, hk⟩
    ·cases h
   ·cases h
  simp only [aOp]
  unfold eLook at h; unfold aLook
  split at h
  ·rename_i i kt h1 h2
   rw [h1, h2]
   dsimp only
   unfold eLook2 at h; unfold aLook2
   split at h
   ·rename_i h3
    rw [h3]
    dsimp only
    split at h
    ·exact ⟨by assumption, get h⟩
    ·cases h
   ·cases h
  ·rename_i kt h1 h2
   rw [h1, h2]
   dsimp only
   split at h
   ·exact ⟨by assumption, get h⟩
   ·cases h
  ·cases h
 case makeInterface t x =>
  simp only [aOp]
  unfold eIfc at h; unfold aIfc
  split at h
  ·cases h
  ·rename_i hn
   split
   ·rename_i h1; exact absurd h1 (hn _)
   ·exact eIf_ok h hk
 case field s x f =>
  simp only [aOp]
  unfold eFd at h; unfold aFd
  split at h
  ·rename_i h1 h2; rw [h1, h2]; exact eIf_ok h hk
  ·rename_i h1 h2; rw [h1, h2]; exact eOf_ok h hk
  ·cases h
 case extract x ix =>
  simp only [aOp]
  unfold eExt at h; unfold aExt
  split at h
  ·rename_i h1; rw [h1]
   unfold aExt2
   dsimp only
   split at h
   ·rename_i h2; rw [h2]; injection h with h; injection h with e1 e2; subst e1; subst e2; exact hk
   ·cases h
  ·cases h
 case call c =>
  simp only [aOp]
  split at h
  ·rename_i h1; rw [h1]; exact eBuiltin_ok h hk
  ·rename_i h1; rw [h1]
   unfold eCallV at h; unfold aCall
   dsimp only
   split at h
   ·rename_i h2; rw [h2]
    split at h
    ·refine ⟨by assumption, ?_⟩
     unfold aCallB
     split at h
     ·rename_i h3; rw [h3]; exact hc _ _ _ _ _ _ h hk
     ·rename_i h3; rw [h3]; exact he _ _ _ _ _ _ h hk
    ·cases h
   ·cases h
  ·cases h
end
/-! ### equal values -/
mutual
def AC.eqb : AC → AC → Bool
 | .int k n, .int k' n' => decide (k = k') && decide (n = n')
 | .bool b, .bool b' => b == b'
 | .str s, .str t => decide (s.data.toList = t.data.toList)
 | .ptr r, .ptr r' => decide (r = r')
 | .sl r n, .sl r' n' => decide (r = r') && decide (n = n')
 | .map r, .map r' => decide (r = r')
 | .nilf, .nilf => true
 | .nili, .nili => true
 | .ifc, .ifc => true
 | .fn f a b, .fn f' a' b' => decide (f = f') && decide (a = a') && decide (b = b')
 | .lst sz els, .lst sz' els' => decide (sz = sz') && acEqbLL els els'
 | .fp cs, .fp cs' => acEqbL cs cs'
 | _, _ => false
def acEqbL : List AC → List AC → Bool
 | [], [] => true
 | x :: xs, y :: ys => x.eqb y && acEqbL xs ys
 | _, _ => false
def acEqbLL : List (List AC) → List (List AC) → Bool
 | [], [] => true
 | x :: xs, y :: ys => acEqbL x y && acEqbLL xs ys
 | _, _ => false
end
theorem str_data {s t : ByteArray} (h : s.data.toList = t.data.toList) : s = t := by
 cases s with
 | mk d => cases t with
  | mk e => exact congrArg ByteArray.mk (Array.toList_inj.1 h)
mutual
theorem AC.eqb_eq : ∀ (x y : AC), AC.eqb x y = true → x = y
 | .int k n, y, h => by cases y <;> simp_all [AC.eqb]
 | .bool b, y, h => by cases y <;> simp_all [AC.eqb]
 | .str s, y, h => by
  cases y with
  | str t => simp only [AC.eqb, decide_eq_true_eq] at h; rw [str_data h]
  | _ => simp [AC.eqb] at h
 | .ptr r, y, h => by cases y <;> simp_all [AC.eqb]
 | .sl r n, y, h => by cases y <;> simp_all [AC.eqb]
 | .map r, y, h => by cases y <;> simp_all [AC.eqb]
 | .nilf, y, h => by cases y <;> simp_all [AC.eqb]
 | .nili, y, h => by cases y <;> simp_all [AC.eqb]
 | .ifc, y, h => by cases y <;> simp_all [AC.eqb]
 | .fn f a b, y, h => by cases y <;> simp_all [AC.eqb]
 | .lst sz els, y, h => by
  cases y with
  | lst sz' els' => simp only [AC.eqb, Bool.and_eq_true, decide_eq_true_eq] at h; rw [h.1, acEqbLL_eq els els' h.2]
  | _ => simp [AC.eqb] at h
 | .fp cs, y, h => by
  cases y with
  | fp cs' => simp only [AC.eqb] at h; rw [acEqbL_eq cs cs' h]
  | _ => simp [AC.eqb] at h
theorem acEqbL_eq : ∀ (x y : List AC), acEqbL x y = true → x = y
 | [], y, h => by cases y <;> simp_all [acEqbL]
 | x :: xs, y, h => by
  cases y with
  | nil => simp [acEqbL] at h
  | cons y ys => simp only [acEqbL, Bool.and_eq_true] at h; rw [AC.eqb_eq x y h.1, acEqbL_eq xs ys h.2]
theorem acEqbLL_eq : ∀ (x y : List (List AC)), acEqbLL x y = true → x = y
 | [], y, h => by cases y <;> simp_all [acEqbLL]
 | x :: xs, y, h => by
  cases y with
  | nil => simp [acEqbLL] at h
  | cons y ys => simp only [acEqbLL, Bool.and_eq_true] at h; rw [acEqbL_eq x y h.1, acEqbLL_eq xs ys h.2]
end
mutual
def AV.eqb : AV → AV → Bool
 | .c x, .c y => x.eqb y
 | .agg x, .agg y => acEqbL x y
 | .tup x, .tup y => avEqbL x y
 | .any, .any => true
 | _, _ => false
def avEqbL : List AV → List AV → Bool
 | [], [] => true
 | x :: xs, y :: ys => x.eqb y && avEqbL xs ys
 | _, _ => false
end
mutual
theorem AV.eqb_eq : ∀ (x y : AV), AV.eqb x y = true → x = y
 | .c x, y, h => by
  cases y with
  | c y => simp only [AV.eqb] at h; rw [AC.eqb_eq x y h]
  | _ => simp [AV.eqb] at h
 | .agg x, y, h => by
  cases y with
  | agg y => simp only [AV.eqb] at h; rw [acEqbL_eq x y h]
  | _ => simp [AV.eqb] at h
 | .tup x, y, h => by
  cases y with
  | tup y => simp only [AV.eqb] at h; rw [avEqbL_eq x y h]
  | _ => simp [AV.eqb] at h
 | .any, y, h => by cases y <;> simp_all [AV.eqb]
theorem avEqbL_eq : ∀ (x y : List AV), avEqbL x y = true → x = y
 | [], y, h => by cases y <;> simp_all [avEqbL]
 | x :: xs, y, h => by
  cases y with
  | nil => simp [avEqbL] at h
  | cons y ys => simp only [avEqbL, Bool.and_eq_true] at h; rw [AV.eqb_eq x y h.1, avEqbL_eq xs ys h.2]
end
def prEqbL : List (AV × AV) → List (AV × AV) → Bool
 | [], [] => true
 | x :: xs, y :: ys => x.1.eqb y.1 && x.2.eqb y.2 && prEqbL xs ys
 | _, _ => false
theorem prEqbL_eq : ∀ (x y : List (AV × AV)), prEqbL x y = true → x = y
 | [], y, h => by cases y <;> simp_all [prEqbL]
 | x :: xs, y, h => by
  cases y with
  | nil => simp [prEqbL] at h
  | cons y ys =>
   simp only [prEqbL, Bool.and_eq_true] at h
   rw [Prod.ext (AV.eqb_eq x.1 y.1 h.1.1) (AV.eqb_eq x.2 y.2 h.1.2), prEqbL_eq xs ys h.2]
def AObj.eqb : AObj → AObj → Bool
 | .row t s e o, .row t' s' e' o' => decide (t = t') && decide (s = s') && acEqbLL e e' && o == o'
 | .map a b es, .map a' b' es' => decide (a = a') && decide (b = b') && prEqbL es es'
 | .dead, .dead => true
 | _, _ => false
theorem AObj.eqb_eq (x y : AObj) (h : AObj.eqb x y = true) : x = y := by
 cases x with
 | row t s e o =>
  cases y with
  | row t' s' e' o' =>
   simp only [AObj.eqb, Bool.and_eq_true, decide_eq_true_eq, beq_iff_eq] at h
   rw [h.1.1.1, h.1.1.2, acEqbLL_eq _ _ h.1.2, h.2]
  | _ => simp [AObj.eqb] at h
 | map a b es =>
  cases y with
  | map a' b' es' =>
   simp only [AObj.eqb, Bool.and_eq_true, decide_eq_true_eq] at h
   rw [h.1.1, h.1.2, prEqbL_eq _ _ h.2]
  | _ => simp [AObj.eqb] at h
 | dead => cases y <;> simp_all [AObj.eqb]
def hpEqb : Hp → Hp → Bool
 | [], [] => true
 | x :: xs, y :: ys => x.eqb y && hpEqb xs ys
 | _, _ => false
theorem hpEqb_eq : ∀ (x y : Hp), hpEqb x y = true → x = y
 | [], y, h => by cases y <;> simp_all [hpEqb]
 | x :: xs, y, h => by
  cases y with
  | nil => simp [hpEqb] at h
  | cons y ys => simp only [hpEqb, Bool.and_eq_true] at h; rw [AObj.eqb_eq x y h.1, hpEqb_eq xs ys h.2]
/-! ### code -/
def eGuard (P : Program) (call ext : FuncId → List AV → Hp → Res) (ops : Array Oper) (o : Oper) (F : Fr) (H : Hp) : Option (Fr × Hp) :=
 match o.guard with
 | none => (match eOp P call ext o.op (evC F) H with | some (v, H') => some (F.put o.dst v, H') | none => none)
 | some (j, want) => match (ops[j]?).bind (·.dst) with
  | some t => (match F t with
   | .c (.bool b) => if b = want then (match eOp P call ext o.op (evC F) H with | some (v, H') => some (F.put o.dst v, H') | none => none) else some (F.put o.dst (.tup []), H)
   | .tup [] => some (F.put o.dst (.tup []), H)
   | _ => none)
  | none => none
def eOps (P : Program) (call ext : FuncId → List AV → Hp → Res) (ops : Array Oper) : List Oper → Fr → Hp → Option (Fr × Hp)
 | [], F, H => some (F, H)
 | o :: rest, F, H => match eGuard P call ext ops o F H with
  | some (F', H') => eOps P call ext ops rest F' H'
  | none => none
section
variable {P : Program} {n N : Nat} {L : List Tmp} {call ext : FuncId → List AV → Hp → Res}
theorem eGuard_ok (hc : CallOk P call) (he : ExtOk P ext) {ops : Array Oper} {o : Oper} {F F' : Fr} {H H' : Hp} {K : Fr → Hp → Prop} (h : eGuard P call ext ops o F H = some (F', H')) (hk : K F' H') : aGuard P ops o K F H := by
 unfold eGuard at h; unfold aGuard
 split at h
 ·rename_i h1; rw [h1]
  dsimp only
  split at h
  ·rename_i h2
   injection h with h; injection h with e1 e2; subst e1; subst e2
   exact eOp_ok hc he h2 hk
  ·cases h
 ·rename_i j want h1; rw [h1]
  dsimp only
  split at h
  ·rename_i t h2; rw [h2]
   dsimp only
   split at h
   ·rename_i b h3; rw [h3]
    dsimp only
    split at h
    ·rename_i hb
     subst hb
     split at h
     ·rename_i h4
      injection h with h; injection h with e1 e2; subst e1; subst e2
      exact ⟨fun _ => eOp_ok hc he h4 hk, fun e => by cases b <;> cases e⟩
     ·cases h
    ·rename_i hb
     injection h with h; injection h with e1 e2; subst e1; subst e2
     exact ⟨fun e => absurd e hb, fun _ => hk⟩
   ·rename_i h3; rw [h3]
    injection h with h; injection h with e1 e2; subst e1; subst e2
    exact hk
   ·cases h
  ·cases h
theorem eOps_ok (hc : CallOk P call) (he : ExtOk P ext) {ops : Array Oper} {K : Fr → Hp → Prop} : ∀ (l : List Oper) {F F' : Fr} {H H' : Hp}, eOps P call ext ops l F H = some (F', H') → K F' H' → aOps P ops K l F H
 | [], F, F', H, H', h, hk => by
  unfold eOps at h
  injection h with h; injection h with e1 e2; subst e1; subst e2; exact hk
 | o :: rest, F, F', H, H', h, hk => by
  unfold eOps at h
  split at h
  ·rename_i h1
   exact eGuard_ok hc he h1 (eOps_ok hc he rest h hk)
  ·cases h
end
/-! ### regions that draw their order: all orders are run -/
def dsts (l : List Oper) : List Tmp := l.filterMap (·.dst)
def eqFr (ds : List Tmp) (F G : Fr) : Bool := ds.all fun t => (F t).eqb (G t)
def eBoth (ds : List Tmp) : Option (Fr × Hp) → Option (Fr × Hp) → Option (Fr × Hp)
 | some (F, H), some (G, I) => if (eqFr ds F G && hpEqb H I) = true then some (F, H) else none
 | _, _ => none
def eAt (P : Program) (call ext : FuncId → List AV → Hp → Res) (l : List Oper) (o : Option Oper) (k : Fr → Hp → Option (Fr × Hp)) (F : Fr) (H : Hp) : Option (Fr × Hp) := match o with
 | some o => (match eGuard P call ext l.toArray o F H with | some (F', H') => k F' H' | none => none)
 | none => none
def eTree (P : Program) (call ext : FuncId → List AV → Hp → Res) (l : List Oper) : OT → Fr → Hp → Option (Fr × Hp)
 | .done, F, H => some (F, H)
 | .one p t, F, H => eAt P call ext l l[p]? (eTree P call ext l t) F H
 | .two p t q u, F, H => eBoth (dsts l) (eAt P call ext l l[p]? (eTree P call ext l t) F H) (eAt P call ext l l[q]? (eTree P call ext l u) F H)
 | .three p t q u r v, F, H => eBoth (dsts l) (eBoth (dsts l) (eAt P call ext l l[p]? (eTree P call ext l t) F H) (eAt P call ext l l[q]? (eTree P call ext l u) F H)) (eAt P call ext l l[r]? (eTree P call ext l v) F H)
 | .four .., _, _ => none
def mkT (l : List Oper) (ms : List Nat) : Nat → List Nat → OT
 | 0, _ => .done
 | k + 1, L => match (rdys l L).find? (firstB l ms L) with
  | some p => .one p (mkT l ms k (p :: L))
  | none => match rdys l L with
   | [p] => .one p (mkT l ms k (p :: L))
   | [p, q] => .two p (mkT l ms k (p :: L)) q (mkT l ms k (q :: L))
   | [p, q, r] => .three p (mkT l ms k (p :: L)) q (mkT l ms k (q :: L)) r (mkT l ms k (r :: L))
   | _ => .done
def treeOf (l : List Oper) : OT := mkT l (masks l) l.length []
section
variable {P : Program} {n N : Nat} {L : List Tmp} {call ext : FuncId → List AV → Hp → Res}
theorem put_out {F : Fr} {d : Option Tmp} {v : AV} {x : Tmp} (h : d ≠ some x) : F.put d v x = F x := by
 cases d with
 | none => rfl
 | some d =>
  have : Nat.beq x d = false := by
   cases hb : Nat.beq x d with
   | false => rfl
   | true => exact absurd (congrArg some (Nat.eq_of_beq_eq_true hb).symm) h
  simp [Fr.put, this]
theorem eGuard_out {ops : Array Oper} {o : Oper} {F F' : Fr} {H H' : Hp} (h : eGuard P call ext ops o F H = some (F', H')) {x : Tmp} (hx : o.dst ≠ some x) : F' x = F x := by
 unfold eGuard at h
 split at h
 ·split at h
  ·injection h with h; injection h with e1 e2; subst e1; exact put_out hx
  ·cases h
 ·split at h
  ·split at h
   ·split at h
    ·split at h
     ·injection h with h; injection h with e1 e2; subst e1; exact put_out hx
     ·cases h
    ·injection h with h; injection h with e1 e2; subst e1; exact put_out hx
   ·injection h with h; injection h with e1 e2; subst e1; exact put_out hx
   ·cases h
  ·cases h
theorem eAt_some {l : List Oper} {o : Option Oper} {k : Fr → Hp → Option (Fr × Hp)} {F F' : Fr} {H H' : Hp} (h : eAt P call ext l o k F H = some (F', H')) : ∃ o' F1 H1, o = some o' ∧ eGuard P call ext l.toArray o' F H = some (F1, H1) ∧ k F1 H1 = some (F', H') := by
 unfold eAt at h
 split at h
 ·rename_i o'
  split at h
  ·rename_i F1 H1 h1; exact ⟨o', F1, H1, rfl, h1, h⟩
  ·cases h
 ·cases h
theorem eBoth_some {ds : List Tmp} {a b : Option (Fr × Hp)} {F : Fr} {H : Hp} (h : eBoth ds a b = some (F, H)) : a = some (F, H) ∧ ∃ G, b = some (G, H) ∧ ∀ x ∈ ds, F x = G x := by
 unfold eBoth at h
 split at h
 ·rename_i F1 H1 G I
  split at h
  ·rename_i hc
   injection h with h; injection h with e1 e2; subst e1; subst e2
   simp only [Bool.and_eq_true] at hc
   have := hpEqb_eq _ _ hc.2
   subst this
   exact ⟨rfl, G, rfl, fun x hx => AV.eqb_eq _ _ (List.all_eq_true.1 hc.1 x hx)⟩
  ·cases h
 ·cases h
theorem dsts_mem {l : List Oper} {p : Nat} {o : Oper} (h : l[p]? = some o) {x : Tmp} (hx : x ∉ dsts l) : o.dst ≠ some x := fun e => hx (List.mem_filterMap.2 ⟨o, List.mem_of_getElem? h, e⟩)
theorem eTree_out {l : List Oper} : ∀ (t : OT) {F F' : Fr} {H H' : Hp}, eTree P call ext l t F H = some (F', H') → ∀ x, x ∉ dsts l → F' x = F x := by
 have at' : ∀ {p : Nat} {k : Fr → Hp → Option (Fr × Hp)} {F F' : Fr} {H H' : Hp}, (∀ {F F' : Fr} {H H' : Hp}, k F H = some (F', H') → ∀ x, x ∉ dsts l → F' x = F x) → eAt P call ext l l[p]? k F H = some (F', H') → ∀ x, x ∉ dsts l → F' x = F x := by
  intro p k F F' H H' hk h x hx
  obtain ⟨o, F1, H1, h1, h2, h3⟩ := eAt_some h
  exact (hk h3 x hx).trans (eGuard_out h2 (dsts_mem h1 hx))
 intro t
 induction t with
 | done => intro F F' H H' h x _; unfold eTree at h; injection h with h; injection h with e1 e2; subst e1; rfl
 | one p t ih => intro F F' H H' h x hx; unfold eTree at h; exact at' ih h x hx
 | two p t q u iht ihu => intro F F' H H' h x hx; unfold eTree at h; exact at' iht (eBoth_some h).1 x hx
 | three p t q u r v iht ihu ihv => intro F F' H H' h x hx; unfold eTree at h; exact at' iht (eBoth_some (eBoth_some h).1).1 x hx
 | four p t q u r v s w _ _ _ _ => intro F F' H H' h x hx; unfold eTree at h; cases h
theorem eTree_ok (hc : CallOk P call) (he : ExtOk P ext) {l : List Oper} {K : Fr → Hp → Prop} : ∀ (t : OT) {F F' : Fr} {H H' : Hp}, eTree P call ext l t F H = some (F', H') → K F' H' → aTree P l K t F H := by
 have at' : ∀ {p : Nat} {t : OT} {F F' : Fr} {H H' : Hp}, (∀ {F F' : Fr} {H H' : Hp}, eTree P call ext l t F H = some (F', H') → K F' H' → aTree P l K t F H) → eAt P call ext l l[p]? (eTree P call ext l t) F H = some (F', H') → K F' H' → aIdx P l.toArray (aTree P l K t) p F H := by
  intro p t F F' H H' ih h hk
  obtain ⟨o, F1, H1, h1, h2, h3⟩ := eAt_some h
  unfold aIdx
  rw [List.getElem?_toArray, h1]
  exact eGuard_ok hc he h2 (ih h3 hk)
 have same : ∀ {p : Nat} {t : OT} {F G F' : Fr} {H H' : Hp}, (∀ x ∈ dsts l, F' x = G x) → (∀ x, x ∉ dsts l → F' x = F x) → eAt P call ext l l[p]? (eTree P call ext l t) F H = some (G, H') → G = F' := by
  intro p t F G F' H H' h1 h2 h3
  funext x
  by_cases hx : x ∈ dsts l
  ·exact (h1 x hx).symm
  ·rw [h2 x hx]
   exact eTree_out (l := l) (.one p t) (F := F) (H := H) (by unfold eTree; exact h3) x hx
 intro t
 induction t with
 | done => intro F F' H H' h hk; unfold eTree at h; injection h with h; injection h with e1 e2; subst e1; subst e2; exact hk
 | one p t ih => intro F F' H H' h hk; unfold eTree at h; exact at' ih h hk
 | two p t q u iht ihu =>
  intro F F' H H' h hk
  have ho := eTree_out _ h
  unfold eTree at h
  obtain ⟨h1, G, h2, h3⟩ := eBoth_some h
  have := same h3 ho h2
  subst this
  exact ⟨at' iht h1 hk, at' ihu h2 hk⟩
 | three p t q u r v iht ihu ihv =>
  intro F F' H H' h hk
  have ho := eTree_out _ h
  unfold eTree at h
  obtain ⟨h1, G, h2, h3⟩ := eBoth_some h
  obtain ⟨h4, G2, h5, h6⟩ := eBoth_some h1
  have e1 := same h3 ho h2
  have e2 := same h6 ho h5
  subst e1
  subst e2
  exact ⟨at' iht h4 hk, at' ihu h5 hk, at' ihv h2 hk⟩
 | four p t q u r v s w _ _ _ _ => intro F F' H H' h hk; unfold eTree at h; cases h
end
def eLoop (body : Fr → Hp → Option (AExit × Fr × Hp)) : Nat → Fr → Hp → Option (AExit × Fr × Hp)
 | 0, _, _ => none
 | k + 1, F, H => match body F H with
  | some (.normal, F', H') => eLoop body k F' H'
  | r => r
def eCode (P : Program) (call ext : FuncId → List AV → Hp → Res) : Code → Fr → Hp → Option (AExit × Fr × Hp)
 | .skip, F, H => some (.normal, F, H)
 | .label _, F, H => some (.normal, F, H)
 | .seq x y, F, H => (match eCode P call ext x F H with
  | some (.normal, F', H') => eCode P call ext y F' H'
  | r => r)
 | .cond c x y, F, H => (match evC F c with
  | .c (.bool true) => eCode P call ext x F H
  | .c (.bool false) => eCode P call ext y F H
  | _ => none)
 | .block id c, F, H => (match eCode P call ext c F H with
  | some (.exit id', F', H') => if id' = id then some (.normal, F', H') else some (.exit id', F', H')
  | r => r)
 | .exit id, F, H => some (.exit id, F, H)
 | .ret, F, H => some (.ret, F, H)
 | .loop c, F, H => eLoop (eCode P call ext c) 1000 F H
 | .region _ ops draw, F, H => if draw = false ∨ (P.follows .mixedOrders = true ∧ linOk ops.toList = true) then (match eOps P call ext ops ops.toList F H with | some (F', H') => some (.normal, F', H') | none => none) else if P.follows .mixedOrders = true ∧ otOk ops.toList (masks ops.toList) [] (treeOf ops.toList) = true then (match eTree P call ext ops.toList (treeOf ops.toList) F H with | some (F', H') => some (.normal, F', H') | none => none) else none
 | _, _, _ => none
section
variable {P : Program} {n N : Nat} {L : List Tmp} {call ext : FuncId → List AV → Hp → Res}
def QE (P : Program) (n N : Nat) (L : List Tmp) (c : Code) (Q : AExit → Fr → Hp → Prop) : Nat → AExit → Fr → Hp → Prop
 | 0 => fun e F H => match e with | .normal => False | e => Q e F H
 | k + 1 => fun e F H => match e with | .normal => AWp P n N L c (QE P n N L c Q k) F H | e => Q e F H
theorem AWp.roundsE {c : Code} {Q : AExit → Fr → Hp → Prop} {F : Fr} {H : Hp} (k : Nat) (hc : codeOk N c = true) (h : AWp P n N L c (QE P n N L c Q k) F H) : AWp P n N L (.loop c) Q F H := by
 intro rr dd B w0 ι0 ι a w hA hn hs hF
 have key : ∀ (k : Nat) (F' : Fr) (H' : Hp) (ι' : En) (a' : Act) (w' : World), Agree n ι0 ι' → n ≤ H'.length → Sim B w0 ι' H' w' → FOk dd N ι' H'.length F' a' → (∀ t ∈ L, t ∉ asg c → F' t = F t) → AWp P n N L c (QE P n N L c Q k) F' H' → Code.roundsIn (fen rr) 0 P c (CQ dd B w0 ι0 n N (QF L (.loop c) F Q)) (k + 1) a' w' := by
  intro k
  induction k with
  | zero =>
   intro F' H' ι' a' w' g1 g2 g3 g4 g5 g6
   rw [roundsIn_succ]
   refine wpIn_mono (awp_sound c _ hc g1 g2 g3 g4 (awp_frame g6)) ?_
   intro e a2 w2 he
   cases e with
   | normal => obtain ⟨ι2, F2, H2, k1, k2, k3, k4, k5, k6⟩ := he; exact k5.elim
   | exit id => obtain ⟨ι2, F2, H2, k1, k2, k3, k4, k5, k6⟩ := he; exact ⟨ι2, F2, H2, k1, k2, k3, k4, k5, fun t ht hm => (k6 t ht hm).trans (g5 t ht hm)⟩
   | ret => obtain ⟨ι2, F2, H2, k1, k2, k3, k4, k5, k6⟩ := he; exact ⟨ι2, F2, H2, k1, k2, k3, k4, k5, fun t ht hm => (k6 t ht hm).trans (g5 t ht hm)⟩
   | _ => exact he
  | succ k ih =>
   intro F' H' ι' a' w' g1 g2 g3 g4 g5 g6
   rw [roundsIn_succ]
   refine wpIn_mono (awp_sound c _ hc g1 g2 g3 g4 (awp_frame g6)) ?_
   intro e a2 w2 he
   cases e with
   | normal => obtain ⟨ι2, F2, H2, k1, k2, k3, k4, k5, k6⟩ := he; exact ih F2 H2 ι2 a2 w2 k1 k2 k3 k4 (fun t ht hm => (k6 t ht hm).trans (g5 t ht hm)) k5
   | exit id => obtain ⟨ι2, F2, H2, k1, k2, k3, k4, k5, k6⟩ := he; exact ⟨ι2, F2, H2, k1, k2, k3, k4, k5, fun t ht hm => (k6 t ht hm).trans (g5 t ht hm)⟩
   | ret => obtain ⟨ι2, F2, H2, k1, k2, k3, k4, k5, k6⟩ := he; exact ⟨ι2, F2, H2, k1, k2, k3, k4, k5, fun t ht hm => (k6 t ht hm).trans (g5 t ht hm)⟩
   | _ => exact he
 exact wpIn_loop_rounds (k + 1) (key k F H ι a w hA hn hs hF (fun _ _ _ => rfl) h)
theorem eCode_ok (hc : CallOk P call) (he : ExtOk P ext) : ∀ (c : Code) {Q : AExit → Fr → Hp → Prop} {e : AExit} {F F' : Fr} {H H' : Hp}, codeOk N c = true → eCode P call ext c F H = some (e, F', H') → Q e F' H' → AWp P n N L c Q F H := by
 intro c
 induction c with
 | skip => intro Q e F F' H H' _ h hq; unfold eCode at h; injection h with h; injection h with e1 e2; injection e2 with e2 e3; subst e1; subst e2; subst e3; exact hq
 | label l => intro Q e F F' H H' _ h hq; unfold eCode at h; injection h with h; injection h with e1 e2; injection e2 with e2 e3; subst e1; subst e2; subst e3; exact hq
 | ret => intro Q e F F' H H' _ h hq; unfold eCode at h; injection h with h; injection h with e1 e2; injection e2 with e2 e3; subst e1; subst e2; subst e3; exact hq
 | exit id => intro Q e F F' H H' _ h hq; unfold eCode at h; injection h with h; injection h with e1 e2; injection e2 with e2 e3; subst e1; subst e2; subst e3; exact hq
 | seq x y ihx ihy =>
  intro Q e F F' H H' hok h hq
  simp only [codeOk, Bool.and_eq_true] at hok
  unfold eCode at h
  split at h
  ·rename_i F1 H1 h1
   exact ihx hok.1 h1 (ihy hok.2 h hq)
  ·rename_i r hr
   refine ihx (Q := fun e F H => match e with | .normal => AWp P n N L y Q F H | e => Q e F H) hok.1 h ?_
   cases e with
   | normal => exact absurd h (hr _ _)
   | _ => exact hq
 | cond c x y ihx ihy =>
  intro Q e F F' H H' hok h hq
  simp only [codeOk, Bool.and_eq_true] at hok
  unfold eCode at h
  unfold AWp
  split at h
  ·rename_i h1; rw [h1]; exact ⟨fun _ => ihx hok.1 h hq, fun e => (by cases e)⟩
  ·rename_i h1; rw [h1]; exact ⟨fun e => (by cases e), fun _ => ihy hok.2 h hq⟩
  ·cases h
 | block id c ih =>
  intro Q e F F' H H' hok h hq
  unfold eCode at h
  unfold AWp
  split at h
  ·rename_i id' F1 H1 h1
   refine ih hok h1 ?_
   dsimp only
   split at h
   ·rename_i hid
    rw [if_pos hid]
    injection h with h; injection h with e1 e2; injection e2 with e2 e3; subst e1; subst e2; subst e3; exact hq
   ·rename_i hid
    rw [if_neg hid]
    injection h with h; injection h with e1 e2; injection e2 with e2 e3; subst e1; subst e2; subst e3; exact hq
  ·rename_i r hr
   refine ih hok h ?_
   cases e with
   | exit i => exact absurd h (hr _ _ _)
   | _ => exact hq
 | loop c ih =>
  intro Q e F F' H H' hok h hq
  unfold eCode at h
  have key : ∀ (k : Nat) (F1 : Fr) (H1 : Hp), eLoop (eCode P call ext c) (k + 1) F1 H1 = some (e, F', H') → AWp P n N L c (QE P n N L c Q k) F1 H1 := by
   intro k
   induction k with
   | zero =>
    intro F1 H1 h
    unfold eLoop at h
    split at h
    ·unfold eLoop at h; cases h
    ·rename_i r hr
     refine ih hok h ?_
     cases e with
     | normal => exact absurd h (hr _ _)
     | _ => exact hq
   | succ k ihk =>
    intro F1 H1 h
    unfold eLoop at h
    split at h
    ·rename_i h1
     exact ih hok h1 (ihk _ _ h)
    ·rename_i r hr
     refine ih hok h ?_
     cases e with
     | normal => exact absurd h (hr _ _)
     | _ => exact hq
  exact AWp.roundsE 999 hok (key 999 F H h)
 | region id ops draw =>
  intro Q e F F' H H' hok h hq
  unfold eCode at h
  split at h
  ·rename_i hd
   split at h
   ·rename_i F1 H1 h1
    injection h with h; injection h with e1 e2; injection e2 with e2 e3; subst e1; subst e2; subst e3
    have h2 := eOps_ok (K := Q .normal) hc he _ h1 hq
    cases draw with
    | false => exact h2
    | true =>
     rcases hd with hd | ⟨hm, hl⟩
     ·cases hd
     ·have := w_draw (n := n) (N := N) (L := L) (id := id) (l := ops.toList) (Q := Q) hm hl (by simpa using h2)
      simpa using this
   ·cases h
  ·rename_i hd
   split at h
   ·rename_i ht
    split at h
    ·rename_i F1 H1 h1
     injection h with h; injection h with e1 e2; injection e2 with e2 e3; subst e1; subst e2; subst e3
     have h2 := eTree_ok (K := Q .normal) hc he _ h1 hq
     cases draw with
     | false => exact absurd (.inl rfl) hd
     | true =>
      have := w_tree (n := n) (N := N) (L := L) (id := id) (l := ops.toList) (Q := Q) _ ht.1 ht.2 h2
      simpa using this
    ·cases h
   ·cases h
 | _ => intro Q e F F' H H' _ h hq; unfold eCode at h; cases h
end
/-! ### calls -/
def okB (n : Nat) : AC → Bool
 | .ptr (some p) => decide (p.1 < n)
 | .sl (some (i, _)) _ => decide (i < n)
 | .map (some i) => decide (i < n)
 | .fn _ fs cs => fs.all (fun p => decide (p.1 < n)) && cs.all (fun p => decide (p.1 < n))
 | _ => true
def ok1B (n : Nat) : AV → Bool
 | .c x => okB n x
 | .agg cs => cs.all (okB n)
 | _ => true
def okVB (n : Nat) : AV → Bool
 | .tup ts => ts.all (ok1B n)
 | x => ok1B n x
def okOB (n : Nat) : AObj → Bool
 | .row _ sz els _ => els.all fun e => e.length == sz && e.all (okB n)
 | .map _ _ _ => false
 | .dead => true
theorem okB_ok {n : Nat} {x : AC} (h : okB n x = true) : x.ok n := by
 unfold okB at h
 split at h <;> first
  | (simpa [AC.ok] using h)
  | (simp only [Bool.and_eq_true, List.all_eq_true, decide_eq_true_eq] at h; exact h)
  | skip
theorem ok1B_ok {n : Nat} {x : AV} (h : ok1B n x = true) : x.ok1 n := by
 cases x with
 | c x => exact okB_ok h
 | agg cs => intro y hy; exact okB_ok (List.all_eq_true.1 h y hy)
 | any => trivial
 | tup ts => trivial
theorem okVB_ok {n : Nat} {x : AV} (h : okVB n x = true) : x.ok n := by
 cases x with
 | c x => exact okB_ok h
 | agg cs => intro y hy; exact okB_ok (List.all_eq_true.1 h y hy)
 | any => trivial
 | tup ts => intro y hy; exact ok1B_ok (List.all_eq_true.1 h y hy)
theorem okOB_ok {n : Nat} {o : AObj} (h : okOB n o = true) : o.okN n := by
 cases o with
 | row ty sz els own =>
  intro e he
  have := List.all_eq_true.1 h e he
  simp only [Bool.and_eq_true, beq_iff_eq, List.all_eq_true] at this
  exact ⟨this.1, fun x hx => okB_ok (this.2 x hx)⟩
 | map _ _ _ => cases h
 | dead => trivial
theorem hok_of {A : Hp} (h : A.all (okOB A.length) = true) : HOk A := fun i o hi => okOB_ok (List.all_eq_true.1 h o (List.mem_of_getElem? hi))
def eRet (n : Nat) (v : AV) (H : Hp) : Res :=
 if n ≤ H.length then (if okVB n v = true ∧ (H.take n).all (okOB n) = true then some (v, H.take n) else some (v, H)) else none
theorem eRet_ok {n : Nat} {v v' : AV} {H H' : Hp} {K : AV → Hp → Prop} (h : eRet n v H = some (v', H')) (hk : K v' H') : Ret n v H K := by
 unfold eRet at h
 split at h
 ·rename_i hn
  have hl : (H.take n).length = n := by rw [List.length_take]; omega
  split at h
  ·rename_i h1
   injection h with h; injection h with e1 e2; subst e1; subst e2
   have h2 : (H.take n).all (okOB (H.take n).length) = true := by rw [hl]; exact h1.2
   have := Ret.drop (G := H.drop n) (n := n) (hok_of h2) (by omega) (by rw [hl]; exact okVB_ok h1.1) hk
   rwa [List.take_append_drop] at this
  ·injection h with h; injection h with e1 e2; subst e1; subst e2
   exact Ret.same hn hk
 ·cases h
def eEnd (P : Program) (fn : Func) (n : Nat) (r : Option (AExit × Fr × Hp)) : Res := match r with
 | some (.exit _, _, _) => none
 | some (_, F, H) => (match resA P fn F H with | some v => eRet n v H | none => none)
 | none => none
def eCall (P : Program) (spec ext : FuncId → List AV → Hp → Res) : Nat → FuncId → List AV → Hp → Res
 | 0 => fun _ _ _ => none
 | k + 1 => fun f args H => match spec f args H with
  | some r => some r
  | none => match P.funcs[f]? with
   | some fn => (match fn.body with
    | some c => if codeOk fn.ntmps c = true ∧ args.length ≤ fn.ntmps then eEnd P fn H.length (eCode P (eCall P spec ext k) ext c (F0 args) H) else none
    | none => none)
   | none => none
theorem eCall_ok {P : Program} {spec ext : FuncId → List AV → Hp → Res} (hs : CallOk P spec) (he : ExtOk P ext) : ∀ k, CallOk P (eCall P spec ext k)
 | 0 => fun f args H v H' K h _ => by simp [eCall] at h
 | k + 1 => fun f args H v H' K h hk => by
  unfold eCall at h
  split at h
  ·rename_i r hr
   injection h with h
   subst h
   exact hs _ _ _ _ _ _ hr hk
  split at h
  ·rename_i fn hf
   split at h
   ·rename_i c hb
    split at h
    ·rename_i h1
     refine acalls hf hb h1.1 h1.2 fun _ => ?_
     unfold eEnd at h
     split at h
     ·cases h
     ·rename_i e F H1 hne he1
      refine eCode_ok (eCall_ok hs he k) he c h1.1 he1 ?_
      split at h
      ·rename_i v1 hv
       have h2 : aRet P fn H.length K F H1 := by unfold aRet; rw [hv]; exact eRet_ok h hk
       cases e with
       | exit id => exact absurd rfl (hne _)
       | normal => exact h2
       | ret => exact h2
      ·cases h
     ·cases h
    ·cases h
   ·cases h
  ·cases h
theorem ACalls.run0S {P : Program} {f : FuncId} {args : List AV} {H : Hp} {K : AV → Hp → Prop} (spec ext : FuncId → List AV → Hp → Res) (hs : CallOk P spec) (he : ExtOk P ext) (k : Nat) (v : AV) (h : (eCall P spec ext k f args []).map (·.1) = some v) (hv : flatV v = true) (hn : args.all (ok1B 0) = true) (hk : K v H) : ACalls P f args H K := by
 intro B w0 ι w vs hs' hr ho
 obtain ⟨⟨v1, H1⟩, h1, h2⟩ := Option.map_eq_some_iff.1 h
 dsimp only at h2
 subst h2
 have h3 : ACalls P f args [] (fun v' _ => v' = v1) := eCall_ok hs he k _ _ _ _ _ _ h1 rfl
 refine (h3 (lowB w.heap.size) w ι w vs hs'.none hr (fun x hx => ok1B_ok (List.all_eq_true.1 hn x hx))).mono fun e w' he => ?_
 obtain ⟨ι2, u, av, H', rfl, k2, k3, k4, k5, k6, hav⟩ := he
 rw [hav] at k5
 have hb := k4.below
 have hg : w.grownBy w' none := ⟨hb.os, hb.tape, hb.output, hb.size, fun k hk _ => hb.block k hk⟩
 exact ⟨ι, u, v1, H, rfl, Agree.refl _ _, Nat.le_refl _, hs'.grown hg, flat_rel hv k5, flat_ok hv _, hk⟩
end Go.Proofs.YtagoolooikpabaaGreatDoor
