/- Regions that draw their order and call what turns nothing: the text's order is enough. No condition. -/
import Derived.Test.YtagoolooikpabaaGreatDoorHCoreDrawS0
set_option linter.all false
namespace Go.Proofs.YtagoolooikpabaaGreatDoor
open Go Go.RowKit
def quietY (Y : Sys) (o : Oper) : Bool := Y.cA o.op || Y.cB o.op
def linAtY (Y : Sys) (ops : Array Oper) (ms : List Nat) (p : Nat) (o : Oper) : Bool :=
 (o.after.toList.all fun e => !Region.binds .any e || decide (e.on < p)) &&
 (((List.range ops.size).all fun i => decide (i ≤ p) || (ms.getD i 0).testBit p) ||
  (quietY Y o && (List.range ops.size).all fun i => decide (i ≤ p) || (ms.getD i 0).testBit p || (match ops[i]? with | some q => o.apart ops q && (Y.cA o.op || quietY Y q) | none => false)))
def linGoY (Y : Sys) (ops : Array Oper) (ms : List Nat) : Nat → List Oper → Bool
 | _, [] => true
 | p, o :: rest => linAtY Y ops ms p o && linGoY Y ops ms (p + 1) rest
def linOkY (Y : Sys) (l : List Oper) : Bool := linGoY Y l.toArray (masks l) 0 l
section
variable {Y : Sys} {P : Program} {n N : Nat} {L : List Tmp} {ops : Array Oper} {K K' : Fr → Hp → Prop} {F : Fr} {H : Hp} {o : Oper}
theorem RV_runY {op : Op} {ev : Operand → AV} {J : AV → Hp → Prop} {v : AV} (h : RVY Y op ev H v) (k : J v H) : Y.op op ev H J := Y.mono (by rintro u H' ⟨rfl, rfl⟩; exact k) h
theorem aGuard_monoY {ops : Array Oper} {K K' : Fr → Hp → Prop} (hk : ∀ F H, K F H → K' F H) (h : aGuardY Y ops o K F H) : aGuardY Y ops o K' F H := by
 unfold aGuardY at h ⊢
 split at h
 ·exact Y.mono (fun v H' => hk _ _) h
 ·split at h
  ·split at h
   ·exact ⟨fun e => Y.mono (fun v H' => hk _ _) (h.1 e), fun e => hk _ _ (h.2 e)⟩
   ·exact hk _ _ h
   ·exact h.elim
  ·exact h.elim
def GVY (Y : Sys) (ops : Array Oper) (o : Oper) (F : Fr) (H : Hp) (v : AV) : Prop :=
 match o.guard with
 | none => RVY Y o.op (evC F) H v
 | some (j, want) => match (ops[j]?).bind (·.dst) with
  | some t => match F t with
   | .c (.bool b) => (b = want → RVY Y o.op (evC F) H v) ∧ (b = !want → v = .tup [])
   | .tup [] => v = .tup []
   | _ => False
  | none => False
theorem guard_gvY {o : Oper} (hq : quietY Y o = true) (h : aGuardY Y ops o K F H) : ∃ v, GVY Y ops o F H v ∧ K (F.put o.dst v) H := by
 have hq' : Y.cA o.op = true ∨ Y.cB o.op = true := by simpa [quietY] using hq
 unfold aGuardY at h
 unfold GVY
 split at h
 ·rename_i hg; obtain ⟨v, h1, h2⟩ := Y.det hq' h; exact ⟨v, by rw [hg]; exact h1, h2⟩
 ·rename_i j want hg
  rw [hg]
  dsimp only
  split at h
  ·rename_i t ht
   rw [ht]
   dsimp only
   split at h
   ·rename_i b hb
    rw [hb]
    dsimp only
    rcases bool_two b want with e | e
    ·obtain ⟨v, h1, h2⟩ := Y.det hq' (h.1 e); exact ⟨v, ⟨fun _ => h1, fun e' => absurd e' (bool_ne e)⟩, h2⟩
    ·exact ⟨_, ⟨fun e' => absurd e (bool_ne e'), fun _ => rfl⟩, h.2 e⟩
   ·rename_i hb; rw [hb]; exact ⟨_, rfl, h⟩
   ·exact h.elim
  ·exact h.elim
theorem gv_guardY {o : Oper} {v : AV} (h : GVY Y ops o F H v) (k : K (F.put o.dst v) H) : aGuardY Y ops o K F H := by
 unfold GVY at h
 unfold aGuardY
 split at h
 ·rename_i hg; rw [hg]; exact RV_runY h k
 ·rename_i j want hg
  rw [hg]
  dsimp only
  split at h
  ·rename_i t ht
   rw [ht]
   dsimp only
   split at h
   ·rename_i b hb
    rw [hb]
    exact ⟨fun e => RV_runY (h.1 e) k, fun e => by have := h.2 e; subst this; exact k⟩
   ·rename_i hb; rw [hb]; subst h; exact k
   ·exact h.elim
  ·exact h.elim
theorem gv_putY {o : Oper} {d : Option Tmp} {v u : AV} {H' : Hp} (h : ∀ d', d = some d' → d' ∉ o.looksAt ops) (hH : Y.cA o.op = true ∨ H' = H) (hg : GVY Y ops o F H v) : GVY Y ops o (F.put d u) H' v := by
 have hrv : RVY Y o.op (evC F) H v → RVY Y o.op (evC (F.put d u)) H' v := by
  intro hr
  unfold RVY at hr ⊢
  have e1 : Y.op o.op (evC (F.put d u)) H' (fun u' H'' => u' = v ∧ H'' = H') = Y.op o.op (evC F) H' (fun u' H'' => u' = v ∧ H'' = H') := Y.congr (fun x hx => evC_put (looks_op h x hx))
  rw [e1]
  rcases hH with hA | rfl
  ·exact Y.stay hA hr
  ·exact hr
 unfold GVY at hg ⊢
 split at hg
 ·exact hrv hg
 ·rename_i j want hgd
  split at hg
  ·rename_i t ht
   rw [put_other (looks_guard h hgd ht)]
   split at hg
   ·exact ⟨fun e => hrv (hg.1 e), hg.2⟩
   ·exact hg
   ·exact hg.elim
  ·exact hg.elim
theorem guard_putY {o : Oper} {d : Option Tmp} {u : AV} (h : ∀ d', d = some d' → d' ∉ o.looksAt ops) (hd : ∀ d', d = some d' → o.dst ≠ some d') (hg : aGuardY Y ops o K (F.put d u) H) : aGuardY Y ops o (fun F' H' => K (F'.put d u) H') F H := by
 have hop : Y.op o.op (evC (F.put d u)) H (fun v H' => K ((F.put d u).put o.dst v) H') → Y.op o.op (evC F) H (fun v H' => K ((F.put o.dst v).put d u) H') := by
  intro hr
  rw [Y.congr (fun x hx => evC_put (looks_op h x hx))] at hr
  exact Y.mono (fun v H' hk => by rw [← put_comm hd]; exact hk) hr
 unfold aGuardY at hg ⊢
 split at hg
 ·exact hop hg
 ·rename_i j want hgd
  split at hg
  ·rename_i t ht
   rw [put_other (looks_guard h hgd ht)] at hg
   split at hg
   ·exact ⟨fun e => hop (hg.1 e), fun e => by show K _ _; rw [← put_comm hd]; exact hg.2 e⟩
   ·show K _ _; rw [← put_comm hd]; exact hg
   ·exact hg.elim
  ·exact hg.elim
theorem postponeY {p : Nat} {o : Oper} {v : AV} {L : Nat → Prop} (ho : ops[p]? = some o) (hst : ∀ (S : Array Bool), Closed ops S → S.getD p true = false → (∀ q, L q → S.getD q false = true) → ∀ i, i ∈ Region.ready .any ops S → i ≠ p → ∃ q, ops[i]? = some q ∧ o.apart ops q = true ∧ (Y.cA o.op = true ∨ quietY Y q = true)) :
  ∀ (m : Nat) (S : Array Bool) (F : Fr) (H : Hp), S.size = ops.size → Closed ops S → (∀ q, L q → S.getD q false = true) → p ∈ Region.ready .any ops S → GVY Y ops o F H v → aAnyY Y ops K m (S.setIfInBounds p true) (F.put o.dst v) H → aAnyY Y ops K (m + 1) S F H
 | m, S, F, H, hsz, hS, hpre, hp, hg, h => by
  have hpn : S.getD p true = false := (mem_ready.1 hp).2.1
  have hp' : p < S.size := by rw [hsz]; exact (mem_ready.1 hp).1
  refine ⟨fun h0 => absurd hp (by rw [h0]; simp), fun i hi => ?_⟩
  by_cases hip : i = p
  ·subst hip
   unfold aIdxY
   rw [ho]
   exact gv_guardY hg h
  ·obtain ⟨q, hq, hap, hcl⟩ := hst S hS hpn hpre i hi hip
   obtain ⟨a1, a2, a3⟩ := Oper.apart_spec hap
   have hi2 := ready_keep hsz hi hp hip
   unfold aIdxY
   rw [hq]
   dsimp only
   cases m with
   | zero =>
    have := h.1
    rw [this] at hi2
    cases hi2
   | succ m =>
    have h1 := h.2 i hi2
    unfold aIdxY at h1
    rw [hq] at h1
    dsimp only at h1
    have h2 := guard_putY a1 a2 h1
    have hpi : p ∈ Region.ready .any ops (S.setIfInBounds i true) := ready_keep hsz hp hi (fun e => hip e.symm)
    have hi' : i < S.size := by rw [hsz]; exact (mem_ready.1 hi).1
    have hpre' : ∀ q, L q → (S.setIfInBounds i true).getD q false = true := fun q hq => by
     rw [getD_set hi']; split
     ·rfl
     ·exact hpre q hq
    have hcomm : (S.setIfInBounds p true).setIfInBounds i true = (S.setIfInBounds i true).setIfInBounds p true := Array.setIfInBounds_comm _ _ (fun e => hip e.symm)
    rw [hcomm] at h2
    have step : ∀ (F' : Fr) (H' : Hp), GVY Y ops o F' H' v → aAnyY Y ops K m ((S.setIfInBounds i true).setIfInBounds p true) (F'.put o.dst v) H' → aAnyY Y ops K (m + 1) (S.setIfInBounds i true) F' H' :=
     fun F' H' g k => postponeY ho hst m (S.setIfInBounds i true) F' H' (by simpa using hsz) (closed_set hS hsz hi) hpre' hpi g k
    -- the value stays: either the operation does not look at the heap, or what runs now does not turn it
    rcases hcl with hA | hQ
    ·have hop : Y.op q.op (evC F) H (fun u H' => aAnyY Y ops K m ((S.setIfInBounds i true).setIfInBounds p true) ((F.put q.dst u).put o.dst v) H') → Y.op q.op (evC F) H (fun u H' => aAnyY Y ops K (m + 1) (S.setIfInBounds i true) (F.put q.dst u) H') :=
      fun hr => Y.mono (fun u H' hk => step _ _ (gv_putY a3 (.inl hA) hg) hk) hr
     unfold aGuardY at h2 ⊢
     split at h2
     ·exact hop h2
     ·split at h2
      ·split at h2
       ·exact ⟨fun e => hop (h2.1 e), fun e => step _ _ (gv_putY a3 (.inl hA) hg) (h2.2 e)⟩
       ·exact step _ _ (gv_putY a3 (.inl hA) hg) h2
       ·exact h2.elim
      ·exact h2.elim
    ·obtain ⟨u, g1, g2⟩ := guard_gvY hQ h2
     exact gv_guardY g1 (step _ _ (gv_putY a3 (.inr rfl) hg) g2)
theorem any_linY {l : List Oper} : ∀ (rest : List Oper) (k : Nat) (S : Array Bool) (F : Fr) (H : Hp), (∀ j, rest[j]? = l[k + j]?) → k + rest.length = l.length → S.size = l.length → (∀ i, i < l.length → S.getD i true = decide (i < k)) → (∀ i, i < k → ∀ o, l.toArray[i]? = some o → ∀ e ∈ o.after, Region.binds .any e = true → e.on < i) →
  linGoY Y l.toArray (masks l) k rest = true → aOpsY Y l.toArray K rest F H → aAnyY Y l.toArray K rest.length S F H
 | [], k, S, F, H, _, hk, hSs, hS, _, _, h => by
  refine ⟨?_, h⟩
  refine List.eq_nil_iff_forall_not_mem.2 (fun i hi => ?_)
  obtain ⟨h1, h2, _⟩ := mem_ready.1 hi
  simp at h1 hk
  rw [hS i h1] at h2
  simp at h2; omega
 | o :: rest, k, S, F, H, hr, hk, hSs, hS, hold, hl, h => by
  have ho : l.toArray[k]? = some o := by have := hr 0; simp at this; simpa using this.symm
  have hkl : k < l.length := by simp at hk; omega
  simp only [linGoY, Bool.and_eq_true] at hl
  obtain ⟨hlin, hl⟩ := hl
  unfold linAtY at hlin
  simp only [Bool.and_eq_true] at hlin
  obtain ⟨hpre, hor⟩ := hlin
  have hSf : ∀ i, i < l.length → S.getD i false = decide (i < k) := by
   intro i hi
   have := hS i hi
   rw [Array.getD_eq_getD_getElem?] at this ⊢
   rw [Array.getElem?_eq_getElem (by omega)] at this ⊢
   exact this
  have hSo : ∀ i, S.getD i false = true → i < k := by
   intro i hi
   rcases Nat.lt_or_ge i l.length with hlt | hge
   ·rw [hSf i hlt] at hi; simpa using hi
   ·rw [Array.getD_eq_getD_getElem?, Array.getElem?_eq_none (by omega)] at hi; cases hi
  have hedge : ∀ e ∈ o.after, Region.binds .any e = true → S.getD e.on false = true := by
   intro e he hb
   have := List.all_eq_true.1 hpre e (by simpa using he)
   simp [hb] at this
   rw [hSf e.on (by omega)]; simpa using this
  have hkr : k ∈ Region.ready .any l.toArray S := mem_ready.2 ⟨by simpa using hkl, by rw [hS k hkl]; simp, o, ho, hedge⟩
  have hS' : ∀ i, i < l.length → (S.setIfInBounds k true).getD i true = decide (i < k + 1) := by
   intro i hi
   rw [getD_set (by omega)]
   by_cases e : i = k
   ·subst e; simp
   ·rw [if_neg e, hS i hi]; congr 1; exact propext (by omega)
  have hedge2 : ∀ e ∈ o.after, Region.binds .any e = true → e.on < k := by
   intro e he hb
   have := List.all_eq_true.1 hpre e (by simpa using he)
   simpa [hb] using this
  have hold' : ∀ i, i < k + 1 → ∀ o, l.toArray[i]? = some o → ∀ e ∈ o.after, Region.binds .any e = true → e.on < i := by
   intro i hi q hq e he hb
   by_cases hik : i = k
   ·subst hik
    have : q = o := by rw [ho] at hq; injection hq with hq; exact hq.symm
    subst this
    exact hedge2 e he hb
   ·exact hold i (by omega) q hq e he hb
  have ih := fun F' H' => any_linY rest (k + 1) (S.setIfInBounds k true) F' H' (fun j => by have := hr (j + 1); simpa [Nat.add_assoc, Nat.add_comm 1 j] using this) (by simp at hk; omega) (by simpa using hSs) hS' hold' hl
  have hcl : Closed l.toArray S := by
   intro i hi q hq e he hb
   have hik := hSo i hi
   have := hold i hik q hq e he hb
   rw [hSf e.on (by omega)]; simp; omega
  have hlate : ∀ (T : Array Bool), Closed l.toArray T → T.getD k true = false → (∀ q, q < k → T.getD q false = true) → ∀ i, i ∈ Region.ready .any l.toArray T → i ≠ k → k < i ∧ ((masks l).getD i 0).testBit k = false := by
   intro T hT hTk hTp i hi hne
   obtain ⟨h1, h2, q, hq, h3⟩ := mem_ready.1 hi
   refine ⟨?_, ?_⟩
   ·rcases Nat.lt_or_ge i k with hlt | hge
    ·have := hTp i hlt
     rw [Array.getD_eq_getD_getElem?] at this h2
     cases ht : T[i]? with
     | none => rw [ht] at this; cases this
     | some b => rw [ht] at this h2; simp at this h2; rw [this] at h2; cases h2
    ·omega
   ·cases hb : ((masks l).getD i 0).testBit k with
    | false => rfl
    | true =>
     have := masks_spec hT hq h3 hb
     rw [Array.getD_eq_getD_getElem?] at this hTk
     cases ht : T[k]? with
     | none => rw [ht] at this; cases this
     | some b => rw [ht] at this hTk; simp at this hTk; rw [this] at hTk; cases hTk
  have hSk : S.getD k true = false := by rw [hS k hkl]; simp
  have hSp : ∀ q, q < k → S.getD q false = true := fun q hq => by rw [hSf q (by omega)]; simpa using hq
  simp only [Bool.or_eq_true, Bool.and_eq_true] at hor
  rcases hor with hsole | ⟨hq, hall⟩
  ·have hone : ∀ i, i ∈ Region.ready .any l.toArray S → i = k := by
    intro i hi
    by_cases hne : i = k
    ·exact hne
    ·obtain ⟨g1, g2⟩ := hlate S hcl hSk hSp i hi hne
     have hin : i < l.toArray.size := (mem_ready.1 hi).1
     have := List.all_eq_true.1 hsole i (List.mem_range.2 hin)
     simp only [Bool.or_eq_true, decide_eq_true_eq] at this
     rcases this with h5 | h5
     ·omega
     ·rw [g2] at h5; cases h5
   refine ⟨fun h0 => absurd hkr (by rw [h0]; simp), fun i hi => ?_⟩
   have := hone i hi
   subst this
   unfold aIdxY
   rw [ho]
   exact aGuard_monoY (fun F' H' hk' => ih F' H' hk') h
  ·obtain ⟨v, hg, hrest⟩ := guard_gvY hq h
   refine postponeY (L := fun q => q < k) ho (fun T hT hTk hTp i hi hne => ?_) rest.length S F H (by simpa using hSs) hcl hSp hkr hg (ih _ _ hrest)
   obtain ⟨g1, g2⟩ := hlate T hT hTk hTp i hi hne
   have hin : i < l.toArray.size := (mem_ready.1 hi).1
   have := List.all_eq_true.1 hall i (List.mem_range.2 hin)
   simp only [Bool.or_eq_true, decide_eq_true_eq] at this
   rcases this with (h5 | h5) | h5
   ·omega
   ·rw [g2] at h5; cases h5
   ·split at h5
    ·rename_i q hq'
     simp only [Bool.and_eq_true, Bool.or_eq_true] at h5
     exact ⟨q, hq', h5.1, h5.2⟩
    ·cases h5
end
/-! ### calls that are known -/
def pureOp (dom : FuncId → Bool) : Op → Bool
 | .call ⟨.value (.func f), _, _⟩ => dom f
 | _ => false
def aSp (v : Option AV) (H : Hp) (K : AV → Hp → Prop) : Prop := match v with
 | some v => K v H
 | none => False
def aOpS (P : Program) (dom : FuncId → Bool) (sp : FuncId → List AV → Option AV) (op : Op) (ev : Operand → AV) (H : Hp) (K : AV → Hp → Prop) : Prop := match op with
 | .call ⟨.value (.func f), args, ts⟩ => (match dom f with
  | true => aSp (sp f (args.toList.map ev)) H K
  | false => aOp P (.call ⟨.value (.func f), args, ts⟩) ev H K)
 | op => aOp P op ev H K
theorem aOpS_not {P : Program} {dom : FuncId → Bool} {sp : FuncId → List AV → Option AV} {op : Op} {ev : Operand → AV} {H : Hp} {K : AV → Hp → Prop} (h : pureOp dom op = false) : aOpS P dom sp op ev H K = aOp P op ev H K := by
 cases op with
 | call c =>
  obtain ⟨callee, args, ts⟩ := c
  cases callee with
  | value x =>
   cases x with
   | func f =>
    have : dom f = false := h
    show (match dom f with | true => aSp (sp f (args.toList.map ev)) H K | false => aOp P (.call ⟨.value (.func f), args, ts⟩) ev H K) = _
    rw [this]
   | _ => rfl
  | _ => rfl
 | _ => rfl
theorem aOpS_pure {P : Program} {dom : FuncId → Bool} {sp : FuncId → List AV → Option AV} {op : Op} (h : pureOp dom op = true) : ∃ f args ts, op = .call ⟨.value (.func f), args, ts⟩ ∧ dom f = true ∧ ∀ (ev : Operand → AV) (H : Hp) (K : AV → Hp → Prop), aOpS P dom sp op ev H K = aSp (sp f (args.toList.map ev)) H K := by
 unfold pureOp at h
 split at h
 ·rename_i f args ts
  refine ⟨f, args, ts, rfl, h, fun ev H K => ?_⟩
  show (match dom f with | true => aSp (sp f (args.toList.map ev)) H K | false => aOp P (.call ⟨.value (.func f), args, ts⟩) ev H K) = _
  have h : dom f = true := h
  rw [h]
 ·cases h
theorem quiet_stay {P : Program} {op : Op} {ev : Operand → AV} {H H' : Hp} {v : AV} (hA : clsA op = true) (h : aOp P op ev H (fun u H'' => u = v ∧ H'' = H)) : aOp P op ev H' (fun u H'' => u = v ∧ H'' = H') := by
 have h1 : GV P #[] ⟨none, op, 0, "", #[], none⟩ (fun _ => .any) H v ∨ True := .inr trivial
 have key : RV P op ev H v → RV P op ev H' v := by
  intro hr
  unfold RV at hr ⊢
  cases op <;> first | (cases hA; done) | skip
  all_goals first
   | exact ⟨hr.1, trivial⟩
   | exact ⟨hr.1, rfl⟩
   | skip
  case pick c x y =>
   simp only [aOp, aPick] at hr ⊢
   split at hr
   ·split at hr <;> exact ⟨hr.1, trivial⟩
   ·exact hr.elim
  case binOp b t x y t2 =>
   have hr : aBinO P t b (ev x) (ev y) (isNilS y) (isNilI y) (fun u => u = v ∧ H = H) := hr
   exact aBinO_mono (K' := fun u => u = v ∧ H' = H') (fun v hv => ⟨hv.1, rfl⟩) hr
  case unOp b t x =>
   simp only [aOp, aUn] at hr ⊢
   split at hr <;> first | exact ⟨hr.1, trivial⟩ | exact hr.elim
  case nilCheck x =>
   simp only [aOp, aNil] at hr ⊢
   split at hr <;> first | exact ⟨hr.1, trivial⟩ | exact hr.elim
  case fieldAddr s x f =>
   simp only [aOp, aFld] at hr ⊢
   split at hr <;> first | exact ⟨hr.1, hr.2.1, trivial⟩ | exact hr.elim
  case extract x i =>
   simp only [aOp, aExt] at hr ⊢
   split at hr
   ·unfold aExt2 at hr ⊢
    split at hr <;> first | exact ⟨hr.1, trivial⟩ | exact ⟨hr.1, rfl⟩ | exact hr.elim
   ·exact hr.elim
  case build t ps =>
   simp only [aOp, aBuild] at hr ⊢
   split at hr <;> first | exact ⟨hr.1, hr.2.1, trivial⟩ | exact hr.elim
  case convert s d x =>
   simp only [aOp, aCv] at hr ⊢
   split at hr
   ·unfold aCv2 at hr ⊢
    split at hr <;> first | exact ⟨hr.1, hr.2.1, trivial⟩ | exact ⟨hr.1, hr.2.1, rfl⟩ | exact hr.elim
   ·unfold aCvS at hr ⊢
    split at hr <;> first | exact ⟨hr.1, hr.2.1, trivial⟩ | exact ⟨hr.1, hr.2.1, rfl⟩
   ·unfold aCvB at hr ⊢
    split at hr <;> first | exact ⟨hr.1, hr.2.1, trivial⟩ | exact ⟨hr.1, hr.2.1, rfl⟩ | exact hr.elim
   ·exact hr.elim
  case makeInterface t x =>
   simp only [aOp, aIfc] at hr ⊢
   split at hr <;> first | exact ⟨hr.1, hr.2.1, trivial⟩ | exact ⟨hr.1, hr.2.1, rfl⟩ | exact hr.elim
  case field s x f =>
   simp only [aOp, aFd] at hr ⊢
   split at hr
   ·first | exact ⟨hr.1, hr.2.1, trivial⟩ | exact ⟨hr.1, hr.2.1, rfl⟩
   ·unfold aOf at hr ⊢
    split at hr <;> first | exact ⟨hr.1, trivial⟩ | exact ⟨hr.1, rfl⟩ | exact hr.elim
   ·exact hr.elim
  case index t x i =>
   simp only [aOp, aStr] at hr ⊢
   split at hr <;> first | exact ⟨hr.1, hr.2.1, trivial⟩ | exact ⟨hr.1, hr.2.1, rfl⟩ | exact hr.elim
  case call c =>
   obtain ⟨callee, args, ts⟩ := c
   cases callee with
   | value f => cases hA
   | invoke r m => cases hA
   | builtin b =>
    simp only [aOp] at hr ⊢
    unfold aBuiltin at hr ⊢
    split at hr
    ·exact ⟨hr.1, hr.2.1, rfl⟩
    ·exact ⟨hr.1, hr.2.1, rfl⟩
    ·exact ⟨hr.1, hr.2.1, rfl⟩
    ·exact ⟨hr.1, rfl⟩
    ·exact ⟨hr.1, rfl⟩
    ·cases hA
    ·cases hA
    ·cases hA
    ·cases hA
    ·cases hA
    ·cases hA
    ·rename_i hts _
     exact absurd hA (by simp [clsA, hts, hr.1.1])
    ·cases hA
    ·cases hA
    ·exact hr.elim
 exact key h
def sysS (P : Program) (dom : FuncId → Bool) (sp : FuncId → List AV → Option AV) : Sys where
 op := aOpS P dom sp
 cA := fun op => clsA op || pureOp dom op
 cB := clsB
 mono := by
  intro o ev H J J' hk h
  cases hp : pureOp dom o with
  | false => rw [aOpS_not hp] at h ⊢; exact aOp_mono hk h
  | true =>
   obtain ⟨f, args, ts, rfl, h1, h2⟩ := aOpS_pure (P := P) (sp := sp) hp
   rw [h2] at h ⊢
   cases hs : sp f (args.toList.map ev) with
   | none => rw [hs] at h; exact h.elim
   | some v => rw [hs] at h; exact hk _ _ h
 congr := by
  intro o ev ev' H J h
  cases hp : pureOp dom o with
  | false => rw [aOpS_not hp, aOpS_not hp]; exact aOp_congr' h
  | true =>
   obtain ⟨f, args, ts, rfl, h1, h2⟩ := aOpS_pure (P := P) (sp := sp) hp
   rw [h2, h2]
   congr 2
   refine List.map_congr_left fun x hx => h x ?_
   show x ∈ (Op.operands (.call ⟨.value (.func f), args, ts⟩))
   simp [Op.operands, Call.operands]
   first | done | exact .inl (by simpa using hx) | exact .inr (by simpa using hx)
 det := by
  intro o ev H J hc h
  cases hp : pureOp dom o with
  | false =>
   rw [aOpS_not hp] at h
   obtain ⟨v, h1, h2⟩ := quiet_det (by simpa [hp] using hc) h
   exact ⟨v, by rw [aOpS_not hp]; exact h1, h2⟩
  | true =>
   obtain ⟨f, args, ts, rfl, h1, h2⟩ := aOpS_pure (P := P) (sp := sp) hp
   rw [h2] at h
   cases hs : sp f (args.toList.map ev) with
   | none => rw [hs] at h; exact h.elim
   | some v => rw [hs] at h; exact ⟨v, by rw [h2, hs]; exact ⟨rfl, rfl⟩, h⟩
 stay := by
  intro o ev H H' v hc h
  cases hp : pureOp dom o with
  | false => rw [aOpS_not hp] at h ⊢; exact quiet_stay (by simpa [hp] using hc) h
  | true =>
   obtain ⟨f, args, ts, rfl, h1, h2⟩ := aOpS_pure (P := P) (sp := sp) hp
   rw [h2] at h ⊢
   cases hs : sp f (args.toList.map ev) with
   | none => rw [hs] at h; exact h.elim
   | some u => rw [hs] at h; exact ⟨h.1, rfl⟩
def SpecOk (P : Program) (dom : FuncId → Bool) (sp : FuncId → List AV → Option AV) : Prop := ∀ f args v H K, dom f = true → sp f args = some v → K v H → entersB P f = true ∧ args.all noTup = true ∧ ACalls P f args H K
section
variable {P : Program} {dom : FuncId → Bool} {sp : FuncId → List AV → Option AV} {n N : Nat} {L : List Tmp} {ops : Array Oper} {F : Fr} {H : Hp}
theorem aOpS_run (hs : SpecOk P dom sp) {op : Op} {F : Fr} {H : Hp} {K : AV → Hp → Prop} (h : aOpS P dom sp op (evC F) H K) : aOp P op (evC F) H K := by
 cases hp : pureOp dom op with
 | false => rwa [aOpS_not hp] at h
 | true =>
  obtain ⟨f, args, ts, rfl, h1, h2⟩ := aOpS_pure (P := P) (sp := sp) hp
  rw [h2] at h
  cases hv : sp f (args.toList.map (evC F)) with
  | none => rw [hv] at h; exact h.elim
  | some v =>
   rw [hv] at h
   obtain ⟨g1, g2, g3⟩ := hs f _ v H K h1 hv h
   refine ⟨g2, ?_⟩
   unfold aCallB
   rw [g1]
   simpa [ptrs] using g3
theorem aGuardS_run (hs : SpecOk P dom sp) {o : Oper} {K : Fr → Hp → Prop} (h : aGuardY (sysS P dom sp) ops o K F H) : aGuard P ops o K F H := by
 unfold aGuardY at h
 unfold aGuard
 split at h
 ·rename_i hg; rw [hg]; exact aOpS_run hs h
 ·rename_i j want hg
  rw [hg]
  dsimp only
  split at h
  ·rename_i t ht
   rw [ht]
   dsimp only
   split at h
   ·rename_i b hb; rw [hb]; exact ⟨fun e => aOpS_run hs (h.1 e), h.2⟩
   ·rename_i hb; rw [hb]; exact h
   ·exact h.elim
  ·exact h.elim
theorem aAnyS_run (hs : SpecOk P dom sp) {K : Fr → Hp → Prop} : ∀ (m : Nat) (S : Array Bool) (F : Fr) (H : Hp), aAnyY (sysS P dom sp) ops K m S F H → aAny P ops K m S F H
 | 0, S, F, H, h => h
 | m + 1, S, F, H, h => ⟨h.1, fun i hi => by
  have h1 := h.2 i hi
  unfold aIdxY at h1
  unfold aIdx
  split at h1
  ·rename_i o ho
   rw [ho]
   exact aGuard_mono (fun F' H' hk => aAnyS_run hs m _ F' H' hk) (aGuardS_run hs h1)
  ·rename_i ho
   rw [ho]
   exact aAnyS_run hs m _ F H h1⟩
theorem w_drawS {id : Nat} {l : List Oper} {Q : AExit → Fr → Hp → Prop} (hs : SpecOk P dom sp) (hm : P.follows .mixedOrders = true) (hl : linOkY (sysS P dom sp) l = true) (h : aOpsY (sysS P dom sp) l.toArray (Q .normal) l F H) : AWp P n N L (.region id l.toArray true) Q F H := by
 refine ⟨hm, ?_⟩
 have := any_linY (Y := sysS P dom sp) (K := Q .normal) (l := l) l 0 (Array.replicate l.length false) F H (by simp) (by simp) (by simp) (fun i hi => by simp [hi]) (by intro i hi; omega) hl h
 exact aAnyS_run hs _ _ _ _ (by simpa using this)
end
/-! ### steps -/
section
variable (P : Program) (dom : FuncId → Bool) (sp : FuncId → List AV → Option AV) (F : Fr) (H : Hp) (K : Fr → Hp → Prop) (J : AV → Hp → Prop)
def ContS (P : Program) (dom : FuncId → Bool) (sp : FuncId → List AV → Option AV) (l : List Oper) (K : Fr → Hp → Prop) (rest : List Oper) (F : Fr) (dst : Option Tmp) : AV → Hp → Prop := fun v H' => aOpsY (sysS P dom sp) l.toArray K rest (F.put dst v) H'
@[go_sem] theorem conts_go (l : List Oper) (rest : List Oper) (dst : Option Tmp) (v : AV) (H' : Hp) : ContS P dom sp l K rest F dst v H' = aOpsY (sysS P dom sp) l.toArray K rest (F.put dst v) H' := (rfl)
@[go_sem ↓] theorem os_nil (l : List Oper) : aOpsY (sysS P dom sp) l.toArray K [] F H = K F H := (rfl)
@[go_sem ↓] theorem os_plain (l : List Oper) (dst : Option Tmp) (op : Op) (ty : TypeId) (pos : String) (after : Array Edge) (rest : List Oper) : aOpsY (sysS P dom sp) l.toArray K (⟨dst, op, ty, pos, after, none⟩ :: rest) F H = aOpS P dom sp op (evC F) H (ContS P dom sp l K rest F dst) := (rfl)
variable (ev : Operand → AV)
@[go_sem ↓] theorem os_assign  (x0) : aOpS P dom sp (.assign x0) ev H J = aOp P (.assign x0) ev H J := (rfl)
@[go_sem ↓] theorem os_buildSlice  (x0) (x1) (x2) : aOpS P dom sp (.buildSlice x0 x1 x2) ev H J = aOp P (.buildSlice x0 x1 x2) ev H J := (rfl)
@[go_sem ↓] theorem os_load  (x0) (x1) : aOpS P dom sp (.load x0 x1) ev H J = aOp P (.load x0 x1) ev H J := (rfl)
@[go_sem ↓] theorem os_fieldAddr  (x0) (x1) (x2) : aOpS P dom sp (.fieldAddr x0 x1 x2) ev H J = aOp P (.fieldAddr x0 x1 x2) ev H J := (rfl)
@[go_sem ↓] theorem os_call (f : FuncId) (args : Array Operand) (ts : Array TypeId) : aOpS P dom sp (.call ⟨.value (.func f), args, ts⟩) ev H J = bif dom f then aSp (sp f (args.toList.map ev)) H J else aOp P (.call ⟨.value (.func f), args, ts⟩) ev H J := by
 show (match dom f with | true => aSp (sp f (args.toList.map ev)) H J | false => aOp P (.call ⟨.value (.func f), args, ts⟩) ev H J) = _
 cases dom f <;> rfl
@[congr] theorem asp_congr {v v' : Option AV} {H H' : Hp} (h1 : v = v') (h2 : H = H') : aSp v H J = aSp v' H' J := by rw [h1, h2]
@[go_sem] theorem asp_some (v : AV) : aSp (some v) H J = J v H := (rfl)
end
end Go.Proofs.YtagoolooikpabaaGreatDoor
