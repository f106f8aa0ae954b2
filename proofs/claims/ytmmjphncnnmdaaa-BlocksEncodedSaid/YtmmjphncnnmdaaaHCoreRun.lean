/- Plain code run: what the abstract machine answers where all is known, computed. No condition. -/
import Derived.Test.YtmmjphncnnmdaaaHCoreC
namespace Go.Proofs.Ytmmjphncnnmdaaa
open Go Go.RowKit
set_option linter.all false
set_option maxHeartbeats 1000000

abbrev Res := Option (AV × Hp)
def eK (k k' : IntKind) (v : AC) : Option AC := if k = k' then some v else none
def eBin (op : BinOp) (x y : AV) : Option AC :=
  match op, x, y with
  | .add, .c (.int k a), .c (.int k' b) => eK k k' (.int k (k.wrap (a + b)))
  | .sub, .c (.int k a), .c (.int k' b) => eK k k' (.int k (k.wrap (a - b)))
  | .mul, .c (.int k a), .c (.int k' b) => eK k k' (.int k (k.wrap (a * b)))
  | .quo, .c (.int k a), .c (.int k' b) => if b = 0 then none else eK k k' (.int k (k.wrap (a.tdiv b)))
  | .rem, .c (.int k a), .c (.int k' b) => if b = 0 then none else eK k k' (.int k (a.tmod b))
  | .and, .c (.int k a), .c (.int k' b) => eK k k' (.int k (k.wrap (BitVec.ofInt k.bits a &&& BitVec.ofInt k.bits b).toNat))
  | .or, .c (.int k a), .c (.int k' b) => eK k k' (.int k (k.wrap (BitVec.ofInt k.bits a ||| BitVec.ofInt k.bits b).toNat))
  | .xor, .c (.int k a), .c (.int k' b) => eK k k' (.int k (k.wrap (BitVec.ofInt k.bits a ^^^ BitVec.ofInt k.bits b).toNat))
  | .shl, .c (.int k a), .c (.int _ b) => if 0 ≤ b then some (.int k (k.wrap (a * 2 ^ (min b.toNat k.bits)))) else none
  | .shr, .c (.int k a), .c (.int _ b) => if 0 ≤ b then some (.int k (a.fdiv (2 ^ (min b.toNat k.bits)))) else none
  | .eql, .c (.int k a), .c (.int k' b) => eK k k' (.bool (a == b))
  | .neq, .c (.int k a), .c (.int k' b) => eK k k' (.bool (a != b))
  | .lss, .c (.int k a), .c (.int k' b) => eK k k' (.bool (decide (a < b)))
  | .leq, .c (.int k a), .c (.int k' b) => eK k k' (.bool (decide (a ≤ b)))
  | .gtr, .c (.int k a), .c (.int k' b) => eK k k' (.bool (decide (b < a)))
  | .geq, .c (.int k a), .c (.int k' b) => eK k k' (.bool (decide (b ≤ a)))
  | .add, .c (.str a), .c (.str b) => if a.size + b.size ≤ 9223372036854775807 then some (.str (a ++ b)) else none
  | .eql, .c (.str a), .c (.str b) => some (.bool (a.toList == b.toList))
  | .neq, .c (.str a), .c (.str b) => some (.bool (!(a.toList == b.toList)))
  | .lss, .c (.str a), .c (.str b) => some (.bool (Op.bytesLess a.toList b.toList))
  | .leq, .c (.str a), .c (.str b) => some (.bool (Op.bytesLess a.toList b.toList || a.toList == b.toList))
  | .gtr, .c (.str a), .c (.str b) => some (.bool (!(Op.bytesLess a.toList b.toList || a.toList == b.toList)))
  | .geq, .c (.str a), .c (.str b) => some (.bool (!(Op.bytesLess a.toList b.toList)))
  | _, _, _ => none
theorem eK_ok {k k' : IntKind} {u v : AC} (h : eK k k' u = some v) : k = k' ∧ u = v := by
  unfold eK at h; split at h
  · exact ⟨by assumption, by injection h⟩
  · cases h
theorem eBin_ok {op : BinOp} {x y : AV} {v : AC} {K : AV → Prop} (h : eBin op x y = some v) (hk : K (.c v)) : aBin op x y K := by
  unfold eBin at h
  split at h
  all_goals first
    | (obtain ⟨h1, rfl⟩ := eK_ok h; exact ⟨h1, hk⟩)
    | (split at h
       · cases h
       · obtain ⟨h1, rfl⟩ := eK_ok h; exact ⟨h1, by assumption, hk⟩)
    | (split at h
       · injection h with h; subst h; exact ⟨by assumption, hk⟩
       · cases h)
    | (injection h with h; subst h; exact hk)
    | cases h
def eBinT (P : Program) (t : TypeId) (op : BinOp) (x y : AV) : Option AC :=
  match op, x, y with
  | .eql, .c (.bool a), .c (.bool b) => if kindT P t = 1 then some (.bool (a == b)) else none
  | .neq, .c (.bool a), .c (.bool b) => if kindT P t = 1 then some (.bool (!(a == b))) else none
  | .eql, .c (.ptr r), .c (.ptr none) => if kindT P t = 2 then some (.bool r.isNone) else none
  | .neq, .c (.ptr r), .c (.ptr none) => if kindT P t = 2 then some (.bool (!r.isNone)) else none
  | .eql, .c (.fp _), .c (.ptr none) => if kindT P t = 2 then some (.bool false) else none
  | .neq, .c (.fp _), .c (.ptr none) => if kindT P t = 2 then some (.bool true) else none
  | .eql, .c (.sl r _), .c (.sl none _) => if kindT P t = 3 then some (.bool r.isNone) else none
  | .neq, .c (.sl r _), .c (.sl none _) => if kindT P t = 3 then some (.bool (!r.isNone)) else none
  | .eql, .agg xs, .agg ys => (match (fieldsK P t).bind (fun l => eqF l xs ys) with | some b => some (.bool b) | none => none)
  | .neq, .agg xs, .agg ys => (match (fieldsK P t).bind (fun l => eqF l xs ys) with | some b => some (.bool (!b)) | none => none)
  | op, x, y => eBin op x y
theorem eBin_dom {op : BinOp} {x y : AV} {v : AC} (h : eBin op x y = some v) : (∃ k a k' b, x = .c (.int k a) ∧ y = .c (.int k' b)) ∨ ∃ a b, x = .c (.str a) ∧ y = .c (.str b) := by
  unfold eBin at h
  split at h
  all_goals first
    | exact .inl ⟨_, _, _, _, rfl, rfl⟩
    | exact .inr ⟨_, _, rfl, rfl⟩
    | cases h
theorem eBinT_ok {P : Program} {t : TypeId} {op : BinOp} {x y : AV} {v : AC} {K : AV → Prop} (h : eBinT P t op x y = some v) (hk : K (.c v)) : aBinT P t op x y K := by
  unfold eBinT at h
  split at h
  all_goals first
    | (split at h
       · injection h with h; subst h; exact ⟨by assumption, hk⟩
       · cases h)
    | (split at h
       · injection h with h; subst h; exact ⟨_, by assumption, hk⟩
       · cases h)
    | skip
  have := eBin_ok (K := K) h hk
  rcases eBin_dom h with ⟨k, a, k', b, rfl, rfl⟩ | ⟨a, b, rfl, rfl⟩
  · cases op <;> exact this
  · cases op <;> exact this
def eBinN (P : Program) (t : TypeId) (op : BinOp) (x y : AV) (nl : Bool) : Option AC :=
  match x with
  | .c (.lst _ (_ :: _)) => (match nl, op, y with
    | true, .eql, .c (.sl none _) => if kindT P t = 3 then some (.bool false) else none
    | true, .neq, .c (.sl none _) => if kindT P t = 3 then some (.bool true) else none
    | _, _, _ => none)
  | .c (.lst _ []) => none
  | _ => eBinT P t op x y
theorem eBinN_ok {P : Program} {t : TypeId} {op : BinOp} {x y : AV} {nl : Bool} {v : AC} {K : AV → Prop} (h : eBinN P t op x y nl = some v) (hk : K (.c v)) : aBinN P t op x y nl K := by
  unfold eBinN at h
  split at h
  · split at h
    · split at h
      · injection h with h; subst h; exact ⟨by assumption, fun b hb => by rw [hb (by simp)]; exact hk⟩
      · cases h
    · split at h
      · injection h with h; subst h; exact ⟨by assumption, fun b hb => by rw [hb (by simp)]; exact hk⟩
      · cases h
    · cases h
  · cases h
  · rename_i h1 h2
    have hn : ∀ sz els, x ≠ .c (.lst sz els) := by
      intro sz els hx
      cases els with
      | nil => exact h2 _ hx
      | cons y ys => exact h1 _ _ _ hx
    have := eBinT_ok (K := K) h hk
    cases x with
    | c x =>
      cases x with
      | lst sz els => exact absurd rfl (hn _ _)
      | _ => cases nl <;> cases op <;> exact this
    | _ => cases nl <;> cases op <;> exact this
def eNilI (P : Program) (t : TypeId) (op : BinOp) (x : AV) : Option AC :=
  match op, x with
  | .eql, .c .nili => if kindT P t = 6 then some (.bool true) else none
  | .neq, .c .nili => if kindT P t = 6 then some (.bool false) else none
  | .eql, .c .ifc => if kindT P t = 6 then some (.bool false) else none
  | .neq, .c .ifc => if kindT P t = 6 then some (.bool true) else none
  | _, _ => none
def eBinO (P : Program) (t : TypeId) (op : BinOp) (x y : AV) (nl ni : Bool) : Option AC := match ni with
  | true => eNilI P t op x
  | false => eBinN P t op x y nl
theorem eBinO_ok {P : Program} {t : TypeId} {op : BinOp} {x y : AV} {nl ni : Bool} {v : AC} {K : AV → Prop} (h : eBinO P t op x y nl ni = some v) (hk : K (.c v)) : aBinO P t op x y nl ni K := by
  cases ni with
  | false => exact eBinN_ok h hk
  | true =>
    have h : eNilI P t op x = some v := h
    show aNilI P t op x K
    unfold eNilI at h; unfold aNilI
    split at h
    all_goals first
      | (split at h
         · injection h with h; subst h; exact ⟨by assumption, hk⟩
         · cases h)
      | cases h
/-! ### builtins -/
def eOwn (P : Program) (H : Hp) (e : Nat) (r : Option (Nat × Nat)) (n : Nat) : Option (List (List AC)) := match r with
  | none => if n = 0 then some [] else none
  | some p => match H[p.1]? with
    | some (.row e' sz els true) => if p.2 = 0 ∧ e' = e ∧ sz = szT P e ∧ n ≤ els.length then some els else none
    | _ => none
theorem eOwn_ok {P : Program} {H : Hp} {e : Nat} {r : Option (Nat × Nat)} {n : Nat} {els : List (List AC)} (h : eOwn P H e r n = some els) : ownA P H e r n els := by
  unfold eOwn at h
  unfold ownA
  split at h
  · split at h
    · injection h with h; subst h; exact ⟨by assumption, rfl⟩
    · cases h
  · split at h
    · rename_i p e' sz els' h1
      split at h
      · rename_i h2
        injection h with h; subst h
        obtain ⟨g1, rfl, rfl, g2⟩ := h2
        exact ⟨g1, h1, g2⟩
      · cases h
    · cases h
def eSrc (P : Program) (H : Hp) (e : Nat) (r2 : Option (Nat × Nat)) (m : Nat) : Option (List (List AC)) := match r2 with
  | none => none
  | some p => match H[p.1]? with
    | some (.row _ sz els _) => if sz = szT P e ∧ p.2 + m ≤ els.length then some ((els.drop p.2).take m) else none
    | _ => none
theorem eSrc_ok {P : Program} {H : Hp} {e : Nat} {r : Option (Nat × Nat)} {m : Nat} {new : List (List AC)} (h : eSrc P H e r m = some new) : srcA P H e r m new := by
  unfold eSrc at h
  unfold srcA
  split at h
  · cases h
  · split at h
    · rename_i p e' sz els own h1
      split at h
      · rename_i h2
        injection h with h; subst h
        obtain ⟨rfl, g2⟩ := h2
        exact ⟨e', els, own, h1, g2, rfl⟩
      · cases h
    · cases h
def eApp (P : Program) (H : Hp) (e : Nat) (r : Option (Nat × Nat)) (n m : Nat) (new : Option (List (List AC))) : Res :=
  if (zeroT P e).map (·.length) = some (szT P e) then
    (if m = 0 then some (.c (.sl r n), H) else match eOwn P H e r n, new with
      | some els, some new => if 0 < szT P e ∧ (n + m) * P.bytesOf e ≤ 140737488355328 ∧ n + m ≤ 9223372036854775807 then some (.c (.sl (some (H.length, 0)) (n + m)), killA r H ++ [.row e (szT P e) (els.take n ++ new) true]) else none
      | _, _ => none)
  else none
def eClr (H : Hp) (r : Option (Nat × Nat)) (n : Nat) (s : Nat) (z : Option Nat) : Res := match r with
  | some p => match H[p.1]? with
    | some (.row ty sz els true) => if s = sz ∧ z = some sz ∧ p.2 + n = els.length then some (.tup [], H.set p.1 (.row ty sz (els.take p.2) true)) else none
    | _ => none
  | none => none
def eLenM (ob : Option AObj) (H : Hp) : Res := match ob with
  | some (.map _ _ es) => some (.c (.int .i64 es.length), H)
  | _ => none
def eBuiltin (P : Program) (b : Builtin) (ts : Array TypeId) (as : List AV) (H : Hp) : Res :=
  match b, ts.toList, as with
  | .len, [t], [.c (.sl _ n)] => if (elemT P t).isSome = true then some (.c (.int .i64 n), H) else none
  | .len, [t], [.c (.lst _ els)] => if (elemT P t).isSome = true then some (.c (.int .i64 els.length), H) else none
  | .len, [t], [.c (.str s)] => if strT P t = true then some (.c (.int .i64 s.size), H) else none
  | .min, _, [.c (.int k x), .c (.int _ y)] => some (.c (.int k (if y < x then y else x)), H)
  | .max, _, [.c (.int k x), .c (.int _ y)] => some (.c (.int k (if x < y then y else x)), H)
  | .append, [t, t'], [.c (.sl r n), .c (.sl r2 m)] => if t = t' then (match elemT P t with
      | some e => eApp P H e r n m (eSrc P H e r2 m)
      | none => none) else none
  | .append, [t, t'], [.c (.sl r n), .c (.lst sz new)] => if t = t' then (match elemT P t with
      | some e => if sz = szT P e then eApp P H e r n new.length (some new) else none
      | none => none) else none
  | .append, [t, t'], [.c (.sl none 0), .c (.int _ m)] => if intT P t' = true then (match elemT P t with
      | some e => (match zeroT P e with
        | some z => if z.length = szT P e ∧ 0 < szT P e ∧ 0 < m ∧ m * P.bytesOf e ≤ 140737488355328 ∧ m ≤ 9223372036854775807 then some (.c (.sl (some (H.length, 0)) m.toNat), H ++ [.row e (szT P e) (List.replicate m.toNat z) true]) else none
        | none => none)
      | none => none) else none
  | .clear, [t], [.c (.sl r n)] => (match n, elemT P t with
      | 0, some _ => some (.tup [], H)
      | n + 1, some e => eClr H r (n + 1) (szT P e) ((zeroT P e).map (·.length))
      | _, none => none)
  | .cap, [t], [.c (.sl none _)] => if (elemT P t).isSome = true then some (.c (.int .i64 0), H) else none
  | .len, [t], [.c (.map (some i))] => if isMapT t = true ∧ (mapK P t).isSome = true then eLenM H[i]? H else none
  | _, _, _ => none
theorem strT_spec {P : Program} {t : TypeId} (h : strT P t = true) : P.underlying t = some .string := by
  unfold strT at h; split at h
  · assumption
  · cases h
section
variable {P : Program} {H H' : Hp} {K : AV → Hp → Prop} {v : AV}
theorem eClr_ok {r : Option (Nat × Nat)} {n s : Nat} {z : Option Nat} (h : eClr H r n s z = some (v, H')) (hk : K v H') : ∃ p, r = some p ∧ aClr2 H[p.1]? p.1 p.2 n s z H K := by
  cases r with
  | none => cases h
  | some p =>
    refine ⟨p, rfl, ?_⟩
    simp only [eClr] at h
    split at h
    · rename_i ty sz els h1
      split at h
      · rename_i h2
        injection h with h; injection h with e1 e2; subst e1; subst e2
        rw [h1]
        exact ⟨h2, hk⟩
      · cases h
    · cases h
theorem eBuiltin_ok {b : Builtin} {ts : Array TypeId} {as : List AV} (h : eBuiltin P b ts as H = some (v, H')) (hk : K v H') : aBuiltin P b ts as H K := by
  unfold eBuiltin at h
  split at h
  · rename_i h1; unfold aBuiltin; rw [h1]
    split at h
    · injection h with h; injection h with e1 e2; subst e1; subst e2; exact ⟨by assumption, hk⟩
    · cases h
  · rename_i h1; unfold aBuiltin; rw [h1]
    split at h
    · injection h with h; injection h with e1 e2; subst e1; subst e2; exact ⟨by assumption, hk⟩
    · cases h
  · rename_i h1; unfold aBuiltin; rw [h1]
    split at h
    · injection h with h; injection h with e1 e2; subst e1; subst e2; exact ⟨strT_spec (by assumption), hk⟩
    · cases h
  · unfold aBuiltin; injection h with h; injection h with e1 e2; subst e1; subst e2; exact hk
  · unfold aBuiltin; injection h with h; injection h with e1 e2; subst e1; subst e2; exact hk
  · rename_i h1; unfold aBuiltin; rw [h1]
    split at h
    · rename_i h2
      refine ⟨h2, ?_⟩
      split at h
      · rename_i e he
        rw [he]
        unfold eApp at h
        split at h
        · rename_i hz
          refine ⟨hz, fun hm => ?_, fun hm => ?_⟩
          · rw [if_pos hm] at h
            injection h with h; injection h with e1 e2; subst e1; subst e2; exact hk
          · rw [if_neg (by omega)] at h
            split at h
            · rename_i els new h3 h4
              split at h
              · rename_i h5
                injection h with h; injection h with e1 e2; subst e1; subst e2
                exact ⟨els, new, eOwn_ok h3, eSrc_ok h4, h5.1, h5.2.1, h5.2.2, hk⟩
              · cases h
            · cases h
        · cases h
      · cases h
    · cases h
  · rename_i h1; unfold aBuiltin; rw [h1]
    split at h
    · rename_i h2
      refine ⟨h2, ?_⟩
      split at h
      · rename_i e he
        rw [he]
        split at h
        · rename_i hsz
          unfold eApp at h
          split at h
          · rename_i hz
            refine ⟨hz, fun hm => ?_, fun hm => ?_⟩
            · rw [if_pos hm] at h
              injection h with h; injection h with e1 e2; subst e1; subst e2; exact hk
            · rw [if_neg (by omega)] at h
              split at h
              · rename_i els new h3 h4
                injection h4 with h4; subst h4
                split at h
                · rename_i h5
                  injection h with h; injection h with e1 e2; subst e1; subst e2
                  exact ⟨els, eOwn_ok h3, hsz, h5.1, h5.2.1, h5.2.2, hk⟩
                · cases h
              · cases h
          · cases h
        · cases h
      · cases h
    · cases h
  · rename_i h1; unfold aBuiltin; rw [h1]
    split at h
    · rename_i h2
      split at h
      · rename_i e he
        split at h
        · rename_i z hz
          split at h
          · rename_i h3
            injection h with h; injection h with e1 e2; subst e1; subst e2
            refine ⟨rfl, rfl, h2, ?_⟩
            rw [he]
            dsimp only
            rw [hz]
            exact ⟨h3.1, h3.2.1, h3.2.2.1, h3.2.2.2.1, h3.2.2.2.2, hk⟩
          · cases h
        · cases h
      · cases h
    · cases h
  · rename_i h1; unfold aBuiltin; rw [h1]
    split at h
    · rename_i e he
      injection h with h; injection h with e1 e2; subst e1; subst e2
      simp only [he, aClr]; exact hk
    · rename_i n e he
      obtain ⟨p, rfl, h2⟩ := eClr_ok (K := K) h hk
      simp only [he, aClr, Option.elim_some, Option.bind_some]
      exact h2
    · cases h
  · rename_i h1; unfold aBuiltin; rw [h1]
    split at h
    · injection h with h; injection h with e1 e2; subst e1; subst e2; exact ⟨rfl, by assumption, hk⟩
    · cases h
  · rename_i h1; unfold aBuiltin; rw [h1]
    split at h
    · refine ⟨by assumption, ?_⟩
      unfold eLenM at h
      split at h
      · rename_i h2; rw [h2]; injection h with h; injection h with e1 e2; subst e1; subst e2; exact hk
      · cases h
    · cases h
  · cases h
end
end Go.Proofs.Ytmmjphncnnmdaaa
