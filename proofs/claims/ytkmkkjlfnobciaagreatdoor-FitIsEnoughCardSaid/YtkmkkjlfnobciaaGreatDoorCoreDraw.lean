/- Regions that draw their order: where the text's order is enough. No condition. -/
import Derived.Test.YtkmkkjlfnobciaaGreatDoorCoreSimp
namespace Go.Proofs.YtkmkkjlfnobciaaGreatDoor
open Go Go.RowKit
set_option linter.all false

/-! ### one order for all -/
def quietB (o : Oper) : Bool := clsA o.op || clsB o.op
/-- the places that stand before each, as numbers' bits -/
def masksGo : List Nat → List Oper → List Nat
  | acc, [] => acc
  | acc, o :: rest => masksGo (acc ++ [o.after.toList.foldl (fun s e => if Region.binds .any e then s ||| (2 ^ e.on ||| acc.getD e.on 0) else s) 0]) rest
def masks (ops : List Oper) : List Nat := masksGo [] ops
def linAt (ops : Array Oper) (ms : List Nat) (p : Nat) (o : Oper) : Bool :=
  (o.after.toList.all fun e => !Region.binds .any e || decide (e.on < p)) &&
  (((List.range ops.size).all fun i => decide (i ≤ p) || (ms.getD i 0).testBit p) ||
   (quietB o && (List.range ops.size).all fun i => decide (i ≤ p) || (ms.getD i 0).testBit p || (match ops[i]? with | some q => o.apart ops q && (clsA o.op || quietB q) | none => false)))
def linGo (ops : Array Oper) (ms : List Nat) : Nat → List Oper → Bool
  | _, [] => true
  | p, o :: rest => linAt ops ms p o && linGo ops ms (p + 1) rest
/-- the text's order stands for all orders -/
def linOk (l : List Oper) : Bool := linGo l.toArray (masks l) 0 l
section
variable {P : Program} {n N : Nat} {L : List Tmp} {ops : Array Oper} {K : Fr → Hp → Prop} {F : Fr} {H : Hp}
def Closed (ops : Array Oper) (S : Array Bool) : Prop := ∀ i, S.getD i false = true → ∀ o, ops[i]? = some o → ∀ e ∈ o.after, Region.binds .any e = true → S.getD e.on false = true
theorem masksGo_spec (S : Array Bool) (hS : Closed ops S) : ∀ (l : List Oper) (acc : List Nat), (∀ j, l[j]? = ops[acc.length + j]?) →
    (∀ (j m : Nat), acc[j]? = some m → ∀ o, ops[j]? = some o → (∀ e ∈ o.after, Region.binds .any e = true → S.getD e.on false = true) → ∀ p, m.testBit p = true → S.getD p false = true) →
    ∀ (j m : Nat), (masksGo acc l)[j]? = some m → ∀ o, ops[j]? = some o → (∀ e ∈ o.after, Region.binds .any e = true → S.getD e.on false = true) → ∀ p, m.testBit p = true → S.getD p false = true
  | [], acc, _, hacc => hacc
  | o0 :: l, acc, hl, hacc => by
    unfold masksGo
    refine masksGo_spec S hS l _ (fun j => ?_) (fun j m hj => ?_)
    · have := hl (j + 1)
      simp only [List.getElem?_cons_succ, List.length_append, List.length_cons, List.length_nil] at this ⊢
      rw [this]; congr 1; omega
    · rcases Nat.lt_or_ge j acc.length with hlt | hge
      · rw [List.getElem?_append_left hlt] at hj
        exact hacc j m hj
      · have hjl := getElem?_lt hj
        have e : j = acc.length := by simp at hjl; omega
        subst e
        simp only [List.getElem?_append_right (Nat.le_refl _), Nat.sub_self, List.getElem?_cons_zero, Option.some.injEq] at hj
        subst hj
        intro o ho hpre p hp
        have ho' : o0 = o := by have := hl 0; simp at this; rw [ho] at this; injection this
        subst ho'
        have key : ∀ (es : List Edge) (s0 : Nat), (∀ e ∈ es, Region.binds .any e = true → S.getD e.on false = true) → (s0.testBit p = true → S.getD p false = true) →
            (es.foldl (fun s e => if Region.binds .any e then s ||| (2 ^ e.on ||| acc.getD e.on 0) else s) s0).testBit p = true → S.getD p false = true := by
          intro es
          induction es with
          | nil => intro s0 _ h0 h; exact h0 h
          | cons e es ih =>
            intro s0 hes h0 h
            rw [List.foldl_cons] at h
            refine ih _ (fun e' he' => hes e' (by simp [he'])) ?_ h
            intro ht
            by_cases hb : Region.binds .any e = true
            · rw [if_pos hb] at ht
              simp only [Nat.testBit_or, Bool.or_eq_true] at ht
              have heS := hes e (by simp) hb
              rcases ht with ht | ht | ht
              · exact h0 ht
              · rw [Nat.testBit_two_pow] at ht
                have : e.on = p := by simpa using ht
                rw [← this]; exact heS
              · cases hq : acc[e.on]? with
                | none => simp [List.getD, hq] at ht
                | some mq =>
                  simp [List.getD, hq] at ht
                  have hon : e.on < acc.length := getElem?_lt hq
                  obtain ⟨oq, hoq⟩ : ∃ oq, ops[e.on]? = some oq := by
                    have h1 := hl 0
                    simp at h1
                    have h2 : acc.length < ops.size := (Array.getElem?_eq_some_iff.1 h1.symm).1
                    exact ⟨ops[e.on]'(by omega), Array.getElem?_eq_getElem (by omega)⟩
                  exact hacc e.on mq hq oq hoq (fun e' he' hb' => hS e.on heS oq hoq e' he' hb') p ht
            · rw [if_neg hb] at ht; exact h0 ht
        exact key o0.after.toList 0 (fun e he hb => hpre e (by simpa using he) hb) (by simp) hp
theorem masks_spec {l : List Oper} {S : Array Bool} (hS : Closed l.toArray S) {i p : Nat} {o : Oper} (ho : l.toArray[i]? = some o) (hpre : ∀ e ∈ o.after, Region.binds .any e = true → S.getD e.on false = true) (hp : ((masks l).getD i 0).testBit p = true) : S.getD p false = true := by
  cases hm : (masks l)[i]? with
  | none => simp [List.getD, hm] at hp
  | some m =>
    simp [List.getD, hm] at hp
    exact masksGo_spec S hS l [] (by simp) (by intro j m h; simp at h) i m hm o ho hpre p hp
theorem mem_ready {S : Array Bool} {i : Nat} : i ∈ Region.ready .any ops S ↔ i < ops.size ∧ S.getD i true = false ∧ ∃ o, ops[i]? = some o ∧ ∀ e ∈ o.after, Region.binds .any e = true → S.getD e.on false = true := by
  unfold Region.ready
  simp only [List.mem_filter, List.mem_range, Bool.and_eq_true, Bool.not_eq_true']
  constructor
  · rintro ⟨h1, h2, h3⟩
    refine ⟨h1, h2, ops[i], Array.getElem?_eq_getElem h1, fun e he hb => ?_⟩
    rw [Array.getElem?_eq_getElem h1] at h3
    simp only [Option.map_some, Option.getD_some] at h3
    have := Array.all_eq_true_iff_forall_mem.1 h3 e he
    simpa [hb] using this
  · rintro ⟨h1, h2, o, ho, h3⟩
    refine ⟨h1, h2, ?_⟩
    rw [ho]
    simp only [Option.map_some, Option.getD_some]
    refine Array.all_eq_true_iff_forall_mem.2 fun e he => ?_
    by_cases hb : Region.binds .any e = true
    · simp [h3 e he hb]
    · simp [hb]
/-- the value under the guard -/
def GV (P : Program) (ops : Array Oper) (o : Oper) (F : Fr) (H : Hp) (v : AV) : Prop :=
  match o.guard with
  | none => RV P o.op (evC F) H v
  | some (j, want) => match (ops[j]?).bind (·.dst) with
    | some t => match F t with
      | .c (.bool b) => (b = want → RV P o.op (evC F) H v) ∧ (b = !want → v = .tup [])
      | .tup [] => v = .tup []
      | _ => False
    | none => False
theorem bool_two (b want : Bool) : b = want ∨ b = !want := by cases b <;> cases want <;> simp
theorem bool_ne {b want : Bool} (h : b = want) : ¬ b = !want := by cases b <;> cases want <;> simp_all
theorem guard_gv {o : Oper} (hq : quietB o = true) (h : aGuard P ops o K F H) : ∃ v, GV P ops o F H v ∧ K (F.put o.dst v) H := by
  have hq' : clsA o.op = true ∨ clsB o.op = true := by simpa [quietB] using hq
  unfold aGuard at h
  unfold GV
  split at h
  · rename_i hg; obtain ⟨v, h1, h2⟩ := quiet_det hq' h; exact ⟨v, by rw [hg]; exact h1, h2⟩
  · rename_i j want hg
    rw [hg]
    dsimp only
    split at h
    · rename_i t ht
      rw [ht]
      dsimp only
      split at h
      · rename_i b hb
        rw [hb]
        dsimp only
        rcases bool_two b want with e | e
        · obtain ⟨v, h1, h2⟩ := quiet_det hq' (h.1 e); exact ⟨v, ⟨fun _ => h1, fun e' => absurd e' (bool_ne e)⟩, h2⟩
        · exact ⟨_, ⟨fun e' => absurd e (bool_ne e'), fun _ => rfl⟩, h.2 e⟩
      · rename_i hb; rw [hb]; exact ⟨_, rfl, h⟩
      · exact h.elim
    · exact h.elim
theorem gv_guard {o : Oper} {v : AV} (h : GV P ops o F H v) (k : K (F.put o.dst v) H) : aGuard P ops o K F H := by
  unfold GV at h
  unfold aGuard
  split at h
  · rename_i hg; rw [hg]; exact RV_run h k
  · rename_i j want hg
    rw [hg]
    dsimp only
    split at h
    · rename_i t ht
      rw [ht]
      dsimp only
      split at h
      · rename_i b hb
        rw [hb]
        exact ⟨fun e => RV_run (h.1 e) k, fun e => by have := h.2 e; subst this; exact k⟩
      · rename_i hb; rw [hb]; subst h; exact k
      · exact h.elim
    · exact h.elim
theorem put_other {F : Fr} {d : Option Tmp} {v : AV} {t : Nat} (h : ∀ d', d = some d' → d' ≠ t) : Fr.put F d v t = F t := by
  cases d with
  | none => rfl
  | some d => rw [put_at, if_neg (fun e => h d rfl e.symm)]
theorem put_comm {F : Fr} {d e : Option Tmp} {v u : AV} (h : ∀ d', d = some d' → e ≠ some d') : (F.put d v).put e u = (F.put e u).put d v := by
  cases d with
  | none => rfl
  | some d =>
    cases e with
    | none => rfl
    | some e =>
      have hne : d ≠ e := fun x => h d rfl (by rw [x])
      funext t
      rw [put_at, put_at, put_at, put_at]
      by_cases h1 : t = e <;> by_cases h2 : t = d
      · exact absurd (h2.symm.trans h1) hne
      · simp [h1, h2]; intro h3; exact absurd (h1.trans h3) h2
      · simp [h1, h2]; intro h3; exact absurd (h2.trans h3) h1
      · simp [h1, h2]
/-- a change that the operation does not look at -/
theorem evC_put {F : Fr} {d : Option Tmp} {v : AV} {x : Operand} (h : ∀ d', d = some d' → x ≠ .tmp d') : evC (F.put d v) x = evC F x := by
  cases x with
  | tmp t => exact put_other (fun d' hd e => h d' hd (by rw [e]))
  | _ => rfl
theorem looks_op {o : Oper} {d : Option Tmp} (h : ∀ d', d = some d' → d' ∉ o.looksAt ops) : ∀ x ∈ o.op.operands, ∀ d', d = some d' → x ≠ .tmp d' := by
  intro x hx d' hd e
  refine h d' hd ?_
  unfold Oper.looksAt
  refine List.mem_append.2 (.inl (List.mem_filterMap.2 ⟨x, by simpa using hx, by rw [e]⟩))
theorem looks_guard {o : Oper} {d : Option Tmp} {j : Nat} {want : Bool} {t : Tmp} (h : ∀ d', d = some d' → d' ∉ o.looksAt ops) (hg : o.guard = some (j, want)) (ht : (ops[j]?).bind (·.dst) = some t) : ∀ d', d = some d' → d' ≠ t := by
  intro d' hd e
  refine h d' hd ?_
  unfold Oper.looksAt
  rw [hg]
  simp [ht, e]
theorem gv_put {o : Oper} {d : Option Tmp} {v u : AV} {H' : Hp} (h : ∀ d', d = some d' → d' ∉ o.looksAt ops) (hH : clsA o.op = true ∨ H' = H) (hg : GV P ops o F H v) : GV P ops o (F.put d u) H' v := by
  have hrv : RV P o.op (evC F) H v → RV P o.op (evC (F.put d u)) H' v := by
    intro hr
    unfold RV at hr ⊢
    have e1 : aOp P o.op (evC (F.put d u)) H' (fun u' H'' => u' = v ∧ H'' = H') = aOp P o.op (evC F) H' (fun u' H'' => u' = v ∧ H'' = H') := aOp_congr' (fun x hx => evC_put (looks_op h x hx))
    rw [e1]
    rcases hH with hA | rfl
    · generalize evC F = ev at hr
      generalize o.op = op at hr hA
      cases op <;> first | (cases hA; done) | skip
      all_goals first
        | exact ⟨hr.1, trivial⟩
        | exact ⟨hr.1, rfl⟩
        | skip
      case pick c x y =>
        simp only [aOp, aPick] at hr ⊢
        split at hr
        · split at hr <;> exact ⟨hr.1, trivial⟩
        · exact hr.elim
      case binOp b t x y t2 =>
        have hr : aBinO P t b (ev x) (ev y) (isNilS y) (isNilI y) (fun u => u = v ∧ H = H) := hr
        exact aBinO_mono (K' := fun u => u = v ∧ H' = H') (fun v hv => ⟨hv.1, rfl⟩) hr
      case unOp b t x =>
        simp only [aOp, aUn] at hr ⊢
        split at hr <;> first | exact ⟨hr.1, trivial⟩ | exact hr.elim
      case nilCheck x =>
        simp only [aOp, aNil] at hr ⊢
        split at hr <;> first | exact ⟨hr.1, trivial⟩ | exact hr.elim
      case fieldAddr s x f =>
        simp only [aOp, aFld] at hr ⊢
        split at hr <;> first | exact ⟨hr.1, hr.2.1, trivial⟩ | exact hr.elim
      case extract x i =>
        simp only [aOp, aExt] at hr ⊢
        split at hr
        · unfold aExt2 at hr ⊢
          split at hr <;> first | exact ⟨hr.1, trivial⟩ | exact ⟨hr.1, rfl⟩ | exact hr.elim
        · exact hr.elim
      case build t ps =>
        simp only [aOp, aBuild] at hr ⊢
        split at hr <;> first | exact ⟨hr.1, hr.2.1, trivial⟩ | exact hr.elim
      case convert s d x =>
        simp only [aOp, aCv] at hr ⊢
        split at hr
        · unfold aCv2 at hr ⊢
          split at hr <;> first | exact ⟨hr.1, hr.2.1, trivial⟩ | exact ⟨hr.1, hr.2.1, rfl⟩ | exact hr.elim
        · unfold aCvS at hr ⊢
          split at hr <;> first | exact ⟨hr.1, hr.2.1, trivial⟩ | exact ⟨hr.1, hr.2.1, rfl⟩
        · unfold aCvB at hr ⊢
          split at hr <;> first | exact ⟨hr.1, hr.2.1, trivial⟩ | exact ⟨hr.1, hr.2.1, rfl⟩ | exact hr.elim
        · exact hr.elim
      case makeInterface t x =>
        simp only [aOp, aIfc] at hr ⊢
        split at hr <;> first | exact ⟨hr.1, hr.2.1, trivial⟩ | exact ⟨hr.1, hr.2.1, rfl⟩ | exact hr.elim
      case field s x f =>
        simp only [aOp, aFd] at hr ⊢
        split at hr
        · first | exact ⟨hr.1, hr.2.1, trivial⟩ | exact ⟨hr.1, hr.2.1, rfl⟩
        · unfold aOf at hr ⊢
          split at hr <;> first | exact ⟨hr.1, trivial⟩ | exact ⟨hr.1, rfl⟩ | exact hr.elim
        · exact hr.elim
      case index t x i =>
        simp only [aOp, aStr] at hr ⊢
        split at hr <;> first | exact ⟨hr.1, hr.2.1, trivial⟩ | exact ⟨hr.1, hr.2.1, rfl⟩ | exact hr.elim
      case call c =>
        obtain ⟨callee, args, ts⟩ := c
        cases callee with
        | value f => cases hA
        | invoke r m => cases hA
        | builtin b =>
          simp only [aOp] at hr ⊢
          unfold aBuiltin at hr ⊢
          split at hr
          · exact ⟨hr.1, hr.2.1, rfl⟩
          · exact ⟨hr.1, hr.2.1, rfl⟩
          · exact ⟨hr.1, hr.2.1, rfl⟩
          · exact ⟨hr.1, rfl⟩
          · exact ⟨hr.1, rfl⟩
          · cases hA
          · cases hA
          · cases hA
          · cases hA
          · cases hA
          · rename_i hts _
            exact absurd hA (by simp [clsA, hts, hr.1.1])
          · exact hr.elim
    · exact hr
  unfold GV at hg ⊢
  split at hg
  · exact hrv hg
  · rename_i j want hgd
    split at hg
    · rename_i t ht
      rw [put_other (looks_guard h hgd ht)]
      split at hg
      · exact ⟨fun e => hrv (hg.1 e), hg.2⟩
      · exact hg
      · exact hg.elim
    · exact hg.elim
/-- the other way: an operation that ran behind the change runs ahead of it -/
theorem guard_put {o : Oper} {d : Option Tmp} {u : AV} (h : ∀ d', d = some d' → d' ∉ o.looksAt ops) (hd : ∀ d', d = some d' → o.dst ≠ some d') (hg : aGuard P ops o K (F.put d u) H) : aGuard P ops o (fun F' H' => K (F'.put d u) H') F H := by
  have hop : aOp P o.op (evC (F.put d u)) H (fun v H' => K ((F.put d u).put o.dst v) H') → aOp P o.op (evC F) H (fun v H' => K ((F.put o.dst v).put d u) H') := by
    intro hr
    rw [aOp_congr' (fun x hx => evC_put (looks_op h x hx))] at hr
    exact aOp_mono (fun v H' hk => by rw [← put_comm hd]; exact hk) hr
  unfold aGuard at hg ⊢
  split at hg
  · exact hop hg
  · rename_i j want hgd
    split at hg
    · rename_i t ht
      rw [put_other (looks_guard h hgd ht)] at hg
      split at hg
      · exact ⟨fun e => hop (hg.1 e), fun e => by show K _ _; rw [← put_comm hd]; exact hg.2 e⟩
      · show K _ _; rw [← put_comm hd]; exact hg
      · exact hg.elim
    · exact hg.elim

theorem getD_set {S : Array Bool} {i j : Nat} {d : Bool} (hi : i < S.size) : (S.setIfInBounds i true).getD j d = if j = i then true else S.getD j d := by
  rw [Array.getD_eq_getD_getElem?, Array.getD_eq_getD_getElem?, Array.getElem?_setIfInBounds]
  by_cases h : i = j
  · subst h; simp [hi]
  · rw [if_neg h, if_neg (fun e => h e.symm)]
theorem closed_set {S : Array Bool} {i : Nat} (hS : Closed ops S) (hsz : S.size = ops.size) (hi : i ∈ Region.ready .any ops S) : Closed ops (S.setIfInBounds i true) := by
  obtain ⟨h1, _, o, ho, h3⟩ := mem_ready.1 hi
  have hi' : i < S.size := by rw [hsz]; exact h1
  intro j hj q hq e he hb
  rw [getD_set hi'] at hj ⊢
  by_cases hji : j = i
  · subst hji
    have : q = o := by rw [ho] at hq; injection hq with hq; exact hq.symm
    subst this
    split
    · rfl
    · exact h3 e he hb
  · rw [if_neg hji] at hj
    split
    · rfl
    · exact hS j hj q hq e he hb
theorem ready_keep {S : Array Bool} {i p : Nat} (hsz : S.size = ops.size) (hi : i ∈ Region.ready .any ops S) (hp : p ∈ Region.ready .any ops S) (hne : i ≠ p) : i ∈ Region.ready .any ops (S.setIfInBounds p true) := by
  obtain ⟨h1, h2, o, ho, h3⟩ := mem_ready.1 hi
  have hp' : p < S.size := by rw [hsz]; exact (mem_ready.1 hp).1
  refine mem_ready.2 ⟨h1, by rw [getD_set hp', if_neg hne]; exact h2, o, ho, fun e he hb => ?_⟩
  rw [getD_set hp']
  split
  · rfl
  · exact h3 e he hb
/-- WHAT MAY RUN AHEAD OF ALL THE REST MAY RUN AT ANY TIME. -/
theorem postpone {p : Nat} {o : Oper} {v : AV} {L : Nat → Prop} (ho : ops[p]? = some o) (hst : ∀ (S : Array Bool), Closed ops S → S.getD p true = false → (∀ q, L q → S.getD q false = true) → ∀ i, i ∈ Region.ready .any ops S → i ≠ p → ∃ q, ops[i]? = some q ∧ o.apart ops q = true ∧ (clsA o.op = true ∨ quietB q = true)) :
    ∀ (m : Nat) (S : Array Bool) (F : Fr) (H : Hp), S.size = ops.size → Closed ops S → (∀ q, L q → S.getD q false = true) → p ∈ Region.ready .any ops S → GV P ops o F H v → aAny P ops K m (S.setIfInBounds p true) (F.put o.dst v) H → aAny P ops K (m + 1) S F H
  | m, S, F, H, hsz, hS, hpre, hp, hg, h => by
    have hpn : S.getD p true = false := (mem_ready.1 hp).2.1
    have hp' : p < S.size := by rw [hsz]; exact (mem_ready.1 hp).1
    refine ⟨fun h0 => absurd hp (by rw [h0]; simp), fun i hi => ?_⟩
    by_cases hip : i = p
    · subst hip
      unfold aIdx
      rw [ho]
      exact gv_guard hg h
    · obtain ⟨q, hq, hap, hcl⟩ := hst S hS hpn hpre i hi hip
      obtain ⟨a1, a2, a3⟩ := Oper.apart_spec hap
      have hi2 := ready_keep hsz hi hp hip
      unfold aIdx
      rw [hq]
      dsimp only
      cases m with
      | zero =>
        have := h.1
        rw [this] at hi2
        cases hi2
      | succ m =>
        have h1 := h.2 i hi2
        unfold aIdx at h1
        rw [hq] at h1
        dsimp only at h1
        have h2 := guard_put a1 a2 h1
        have hpi : p ∈ Region.ready .any ops (S.setIfInBounds i true) := ready_keep hsz hp hi (fun e => hip e.symm)
        have hi' : i < S.size := by rw [hsz]; exact (mem_ready.1 hi).1
        have hpre' : ∀ q, L q → (S.setIfInBounds i true).getD q false = true := fun q hq => by
          rw [getD_set hi']; split
          · rfl
          · exact hpre q hq
        have hcomm : (S.setIfInBounds p true).setIfInBounds i true = (S.setIfInBounds i true).setIfInBounds p true := Array.setIfInBounds_comm _ _ (fun e => hip e.symm)
        rw [hcomm] at h2
        have step : ∀ (F' : Fr) (H' : Hp), GV P ops o F' H' v → aAny P ops K m ((S.setIfInBounds i true).setIfInBounds p true) (F'.put o.dst v) H' → aAny P ops K (m + 1) (S.setIfInBounds i true) F' H' :=
          fun F' H' g k => postpone ho hst m (S.setIfInBounds i true) F' H' (by simpa using hsz) (closed_set hS hsz hi) hpre' hpi g k
        -- the value stays: either the operation does not look at the heap, or what runs now does not turn it
        rcases hcl with hA | hQ
        · have hop : aOp P q.op (evC F) H (fun u H' => aAny P ops K m ((S.setIfInBounds i true).setIfInBounds p true) ((F.put q.dst u).put o.dst v) H') → aOp P q.op (evC F) H (fun u H' => aAny P ops K (m + 1) (S.setIfInBounds i true) (F.put q.dst u) H') :=
            fun hr => aOp_mono (fun u H' hk => step _ _ (gv_put a3 (.inl hA) hg) hk) hr
          unfold aGuard at h2 ⊢
          split at h2
          · exact hop h2
          · split at h2
            · split at h2
              · exact ⟨fun e => hop (h2.1 e), fun e => step _ _ (gv_put a3 (.inl hA) hg) (h2.2 e)⟩
              · exact step _ _ (gv_put a3 (.inl hA) hg) h2
              · exact h2.elim
            · exact h2.elim
        · obtain ⟨u, g1, g2⟩ := guard_gv hQ h2
          exact gv_guard g1 (step _ _ (gv_put a3 (.inr rfl) hg) g2)
theorem any_lin {l : List Oper} : ∀ (rest : List Oper) (k : Nat) (S : Array Bool) (F : Fr) (H : Hp), (∀ j, rest[j]? = l[k + j]?) → k + rest.length = l.length → S.size = l.length → (∀ i, i < l.length → S.getD i true = decide (i < k)) → (∀ i, i < k → ∀ o, l.toArray[i]? = some o → ∀ e ∈ o.after, Region.binds .any e = true → e.on < i) →
    linGo l.toArray (masks l) k rest = true → aOps P l.toArray K rest F H → aAny P l.toArray K rest.length S F H
  | [], k, S, F, H, _, hk, hSs, hS, _, _, h => by
    refine ⟨?_, h⟩
    refine List.eq_nil_iff_forall_not_mem.2 (fun i hi => ?_)
    obtain ⟨h1, h2, _⟩ := mem_ready.1 hi
    simp at h1 hk
    rw [hS i h1] at h2
    simp at h2; omega
  | o :: rest, k, S, F, H, hr, hk, hSs, hS, hold, hl, h => by
    have ho : l.toArray[k]? = some o := by have := hr 0; simp at this; simpa using this.symm
    have hkl : k < l.length := by simp at hk; omega
    simp only [linGo, Bool.and_eq_true] at hl
    obtain ⟨hlin, hl⟩ := hl
    unfold linAt at hlin
    simp only [Bool.and_eq_true] at hlin
    obtain ⟨hpre, hor⟩ := hlin
    have hSf : ∀ i, i < l.length → S.getD i false = decide (i < k) := by
      intro i hi
      have := hS i hi
      rw [Array.getD_eq_getD_getElem?] at this ⊢
      rw [Array.getElem?_eq_getElem (by omega)] at this ⊢
      exact this
    have hSo : ∀ i, S.getD i false = true → i < k := by
      intro i hi
      rcases Nat.lt_or_ge i l.length with hlt | hge
      · rw [hSf i hlt] at hi; simpa using hi
      · rw [Array.getD_eq_getD_getElem?, Array.getElem?_eq_none (by omega)] at hi; cases hi
    have hedge : ∀ e ∈ o.after, Region.binds .any e = true → S.getD e.on false = true := by
      intro e he hb
      have := List.all_eq_true.1 hpre e (by simpa using he)
      simp [hb] at this
      rw [hSf e.on (by omega)]; simpa using this
    have hkr : k ∈ Region.ready .any l.toArray S := mem_ready.2 ⟨by simpa using hkl, by rw [hS k hkl]; simp, o, ho, hedge⟩
    have hS' : ∀ i, i < l.length → (S.setIfInBounds k true).getD i true = decide (i < k + 1) := by
      intro i hi
      rw [getD_set (by omega)]
      by_cases e : i = k
      · subst e; simp
      · rw [if_neg e, hS i hi]; congr 1; exact propext (by omega)
    have hedge2 : ∀ e ∈ o.after, Region.binds .any e = true → e.on < k := by
      intro e he hb
      have := List.all_eq_true.1 hpre e (by simpa using he)
      simpa [hb] using this
    have hold' : ∀ i, i < k + 1 → ∀ o, l.toArray[i]? = some o → ∀ e ∈ o.after, Region.binds .any e = true → e.on < i := by
      intro i hi q hq e he hb
      by_cases hik : i = k
      · subst hik
        have : q = o := by rw [ho] at hq; injection hq with hq; exact hq.symm
        subst this
        exact hedge2 e he hb
      · exact hold i (by omega) q hq e he hb
    have ih := fun F' H' => any_lin rest (k + 1) (S.setIfInBounds k true) F' H' (fun j => by have := hr (j + 1); simpa [Nat.add_assoc, Nat.add_comm 1 j] using this) (by simp at hk; omega) (by simpa using hSs) hS' hold' hl
    have hcl : Closed l.toArray S := by
      intro i hi q hq e he hb
      have hik := hSo i hi
      have := hold i hik q hq e he hb
      rw [hSf e.on (by omega)]; simp; omega
    have hlate : ∀ (T : Array Bool), Closed l.toArray T → T.getD k true = false → (∀ q, q < k → T.getD q false = true) → ∀ i, i ∈ Region.ready .any l.toArray T → i ≠ k → k < i ∧ ((masks l).getD i 0).testBit k = false := by
      intro T hT hTk hTp i hi hne
      obtain ⟨h1, h2, q, hq, h3⟩ := mem_ready.1 hi
      refine ⟨?_, ?_⟩
      · rcases Nat.lt_or_ge i k with hlt | hge
        · have := hTp i hlt
          rw [Array.getD_eq_getD_getElem?] at this h2
          cases ht : T[i]? with
          | none => rw [ht] at this; cases this
          | some b => rw [ht] at this h2; simp at this h2; rw [this] at h2; cases h2
        · omega
      · cases hb : ((masks l).getD i 0).testBit k with
        | false => rfl
        | true =>
          have := masks_spec hT hq h3 hb
          rw [Array.getD_eq_getD_getElem?] at this hTk
          cases ht : T[k]? with
          | none => rw [ht] at this; cases this
          | some b => rw [ht] at this hTk; simp at this hTk; rw [this] at hTk; cases hTk
    have hSk : S.getD k true = false := by rw [hS k hkl]; simp
    have hSp : ∀ q, q < k → S.getD q false = true := fun q hq => by rw [hSf q (by omega)]; simpa using hq
    simp only [Bool.or_eq_true, Bool.and_eq_true] at hor
    rcases hor with hsole | ⟨hq, hall⟩
    · have hone : ∀ i, i ∈ Region.ready .any l.toArray S → i = k := by
        intro i hi
        by_cases hne : i = k
        · exact hne
        · obtain ⟨g1, g2⟩ := hlate S hcl hSk hSp i hi hne
          have hin : i < l.toArray.size := (mem_ready.1 hi).1
          have := List.all_eq_true.1 hsole i (List.mem_range.2 hin)
          simp only [Bool.or_eq_true, decide_eq_true_eq] at this
          rcases this with h5 | h5
          · omega
          · rw [g2] at h5; cases h5
      refine ⟨fun h0 => absurd hkr (by rw [h0]; simp), fun i hi => ?_⟩
      have := hone i hi
      subst this
      unfold aIdx
      rw [ho]
      exact aGuard_mono (fun F' H' hk' => ih F' H' hk') h
    · obtain ⟨v, hg, hrest⟩ := guard_gv hq h
      refine postpone (L := fun q => q < k) ho (fun T hT hTk hTp i hi hne => ?_) rest.length S F H (by simpa using hSs) hcl hSp hkr hg (ih _ _ hrest)
      obtain ⟨g1, g2⟩ := hlate T hT hTk hTp i hi hne
      have hin : i < l.toArray.size := (mem_ready.1 hi).1
      have := List.all_eq_true.1 hall i (List.mem_range.2 hin)
      simp only [Bool.or_eq_true, decide_eq_true_eq] at this
      rcases this with (h5 | h5) | h5
      · omega
      · rw [g2] at h5; cases h5
      · split at h5
        · rename_i q hq'
          simp only [Bool.and_eq_true, Bool.or_eq_true] at h5
          exact ⟨q, hq', h5.1, h5.2⟩
        · cases h5
/-- A REGION THAT DRAWS ITS ORDER, where the text's order stands for all. -/
theorem w_draw {id : Nat} {l : List Oper} {Q : AExit → Fr → Hp → Prop} (hm : P.follows .mixedOrders = true) (hl : linOk l = true) (h : aOps P l.toArray (Q .normal) l F H) : AWp P n N L (.region id l.toArray true) Q F H := by
  refine ⟨hm, ?_⟩
  have := any_lin (P := P) (K := Q .normal) (l := l) l 0 (Array.replicate l.length false) F H (by simp) (by simp) (by simp) (fun i hi => by simp [hi]) (by intro i hi; omega) hl h
  simpa using this
end
/-! ### some orders for all -/
inductive OT where
  | done
  | one (p : Nat) (t : OT)
  | two (p : Nat) (t : OT) (q : Nat) (u : OT)
  | three (p : Nat) (t : OT) (q : Nat) (u : OT) (r : Nat) (v : OT)
/-- ready, by the list of what ran -/
def rdyB (l : List Oper) (L : List Nat) (i : Nat) : Bool := match l[i]? with
  | some o => !L.contains i && o.after.toList.all fun e => !Region.binds .any e || L.contains e.on
  | none => false
def rdys (l : List Oper) (L : List Nat) : List Nat := (List.range l.length).filter (rdyB l L)
def firstB (l : List Oper) (ms : List Nat) (L : List Nat) (p : Nat) : Bool := match l[p]? with
  | some o => quietB o && (List.range l.length).all fun i => i == p || L.contains i || (ms.getD i 0).testBit p || (match l[i]? with | some q => o.apart l.toArray q && (clsA o.op || quietB q) | none => false)
  | none => false
def otOk (l : List Oper) (ms : List Nat) : List Nat → OT → Bool
  | L, .done => rdys l L == [] && L.length == l.length
  | L, .one p t => decide (L.length < l.length) && rdyB l L p && (rdys l L == [p] || firstB l ms L p) && otOk l ms (p :: L) t
  | L, .two p t q u => decide (L.length < l.length) && rdys l L == [p, q] && otOk l ms (p :: L) t && otOk l ms (q :: L) u
  | L, .three p t q u r v => decide (L.length < l.length) && rdys l L == [p, q, r] && otOk l ms (p :: L) t && otOk l ms (q :: L) u && otOk l ms (r :: L) v
def aTree (P : Program) (l : List Oper) (K : Fr → Hp → Prop) : OT → Fr → Hp → Prop
  | .done, F, H => K F H
  | .one p t, F, H => aIdx P l.toArray (aTree P l K t) p F H
  | .two p t q u, F, H => aIdx P l.toArray (aTree P l K t) p F H ∧ aIdx P l.toArray (aTree P l K u) q F H
  | .three p t q u r v, F, H => aIdx P l.toArray (aTree P l K t) p F H ∧ aIdx P l.toArray (aTree P l K u) q F H ∧ aIdx P l.toArray (aTree P l K v) r F H
section
variable {P : Program} {n N : Nat} {L : List Tmp} {l : List Oper} {K : Fr → Hp → Prop} {F : Fr} {H : Hp}
def Lst (l : List Oper) (L : List Nat) (S : Array Bool) : Prop := S.size = l.length ∧ ∀ i, i < l.length → S.getD i true = L.contains i
theorem lst_f {L : List Nat} {S : Array Bool} (h : Lst l L S) {i : Nat} (hi : i < l.length) : S.getD i false = L.contains i := by
  have := h.2 i hi
  rw [Array.getD_eq_getD_getElem?] at this ⊢
  rw [Array.getElem?_eq_getElem (by rw [h.1]; exact hi)] at this ⊢
  exact this
theorem lst_out {L : List Nat} {S : Array Bool} (h : Lst l L S) {i : Nat} (hi : S.getD i false = true) : i < l.length ∧ L.contains i = true := by
  rcases Nat.lt_or_ge i l.length with hlt | hge
  · rw [lst_f h hlt] at hi; exact ⟨hlt, hi⟩
  · rw [Array.getD_eq_getD_getElem?, Array.getElem?_eq_none (by rw [h.1]; exact hge)] at hi; cases hi
theorem lst_ready {L : List Nat} {S : Array Bool} (h : Lst l L S) (hL : ∀ x ∈ L, x < l.length) {i : Nat} : i ∈ Region.ready .any l.toArray S ↔ rdyB l L i = true := by
  rw [mem_ready]
  unfold rdyB
  constructor
  · rintro ⟨h1, h2, o, ho, h3⟩
    have ho' : l[i]? = some o := by simpa using ho
    rw [ho']
    have h1' : i < l.length := by simpa using h1
    rw [h.2 i h1'] at h2
    simp only [h2, Bool.not_false, Bool.true_and]
    refine List.all_eq_true.2 fun e he => ?_
    by_cases hb : Region.binds .any e = true
    · simp only [hb, Bool.not_true, Bool.false_or]; exact (lst_out h (h3 e (by simpa using he) hb)).2
    · simp [hb]
  · intro hr
    cases ho : l[i]? with
    | none => rw [ho] at hr; cases hr
    | some o =>
      rw [ho] at hr
      simp only [Bool.and_eq_true, Bool.not_eq_true'] at hr
      have hi := getElem?_lt ho
      refine ⟨by simpa using hi, by rw [h.2 i hi]; exact hr.1, o, by simpa using ho, fun e he hb => ?_⟩
      have := List.all_eq_true.1 hr.2 e (by simpa using he)
      simp only [hb, Bool.not_true, Bool.false_or] at this
      rw [lst_f h (hL e.on (by simpa using this))]; exact this
theorem lst_set {L : List Nat} {S : Array Bool} (h : Lst l L S) {p : Nat} (hp : p < l.length) : Lst l (p :: L) (S.setIfInBounds p true) := by
  refine ⟨by simpa using h.1, fun i hi => ?_⟩
  rw [getD_set (by rw [h.1]; exact hp), List.contains_cons]
  by_cases e : i = p
  · subst e; simp
  · rw [if_neg e, h.2 i hi]
    have : (i == p) = false := by simpa using e
    simp [this]
theorem any_tree : ∀ (t : OT) (m : Nat) (L : List Nat) (S : Array Bool) (F : Fr) (H : Hp), Lst l L S → Closed l.toArray S → (∀ x ∈ L, x < l.length) → L.length + m = l.length → otOk l (masks l) L t = true → aTree P l K t F H → aAny P l.toArray K m S F H
  | .done, m, L, S, F, H, hL, hS, hb, hm, hok, h => by
    simp only [otOk, Bool.and_eq_true, beq_iff_eq] at hok
    have hm0 : m = 0 := by omega
    subst hm0
    have hr : Region.ready .any l.toArray S = [] := by
      refine List.eq_nil_iff_forall_not_mem.2 fun i hi => ?_
      have h1 := (lst_ready hL hb).1 hi
      have h2 : i ∈ rdys l L := List.mem_filter.2 ⟨List.mem_range.2 (by have := (mem_ready.1 hi).1; simpa using this), h1⟩
      rw [hok.1] at h2; cases h2
    exact ⟨hr, h⟩
  | .one p t, m, L, S, F, H, hL, hS, hb, hm, hok, h => by
    simp only [otOk, Bool.and_eq_true, Bool.or_eq_true, beq_iff_eq, decide_eq_true_eq] at hok
    obtain ⟨⟨⟨hlen, hrd⟩, hor⟩, hok⟩ := hok
    have hp := (lst_ready hL hb).2 hrd
    obtain ⟨hp1, hp2, o, ho, _⟩ := mem_ready.1 hp
    have hpl : p < l.length := by simpa using hp1
    have hL' := lst_set hL hpl
    have hS' := closed_set hS (by simpa using hL.1) hp
    have hb' : ∀ x ∈ p :: L, x < l.length := by intro x hx; rcases List.mem_cons.1 hx with rfl | hx; exact hpl; exact hb x hx
    obtain ⟨m, rfl⟩ : ∃ k, m = k + 1 := ⟨m - 1, by omega⟩
    have ih := fun F' H' => any_tree t m (p :: L) (S.setIfInBounds p true) F' H' hL' hS' hb' (by simp; omega) hok
    unfold aTree aIdx at h
    rw [ho] at h
    dsimp only at h
    rcases hor with hone | hfirst
    · refine ⟨fun h0 => absurd hp (by rw [h0]; simp), fun i hi => ?_⟩
      have h1 := (lst_ready hL hb).1 hi
      have h2 : i ∈ rdys l L := List.mem_filter.2 ⟨List.mem_range.2 (by have := (mem_ready.1 hi).1; simpa using this), h1⟩
      rw [hone] at h2
      have hip : i = p := by simpa using h2
      subst hip
      unfold aIdx
      rw [ho]
      exact aGuard_mono (fun F' H' hk' => ih F' H' hk') h
    · unfold firstB at hfirst
      have ho' : l[p]? = some o := by simpa using ho
      rw [ho'] at hfirst
      simp only [Bool.and_eq_true] at hfirst
      obtain ⟨hq, hall⟩ := hfirst
      obtain ⟨v, hg, hrest⟩ := guard_gv hq h
      refine postpone (L := fun q => L.contains q = true) ho (fun T hT hTp hTL i hi hne => ?_) m S F H (by simpa using hL.1) hS (fun q hq' => by
        have := hb q (by simpa using hq')
        rw [lst_f hL this]; exact hq') hp hg (ih _ _ hrest)
      obtain ⟨g1, g2, q, hq', g3⟩ := mem_ready.1 hi
      have := List.all_eq_true.1 hall i (List.mem_range.2 (by simpa using g1))
      simp only [Bool.or_eq_true, beq_iff_eq] at this
      rcases this with ((h5 | h5) | h5) | h5
      · exact absurd h5 hne
      · have := hTL i h5
        rw [Array.getD_eq_getD_getElem?] at this g2
        cases ht : T[i]? with
        | none => rw [ht] at this; cases this
        | some b => rw [ht] at this g2; simp at this g2; rw [this] at g2; cases g2
      · have := masks_spec hT hq' g3 h5
        rw [Array.getD_eq_getD_getElem?] at this hTp
        cases ht : T[p]? with
        | none => rw [ht] at this; cases this
        | some b => rw [ht] at this hTp; simp at this hTp; rw [this] at hTp; cases hTp
      · have hq2 : l[i]? = some q := by simpa using hq'
        rw [hq2] at h5
        simp only [Bool.and_eq_true, Bool.or_eq_true] at h5
        exact ⟨q, hq', h5.1, h5.2⟩
  | .two p t q u, m, L, S, F, H, hL, hS, hb, hm, hok, h => by
    simp only [otOk, Bool.and_eq_true, beq_iff_eq, decide_eq_true_eq] at hok
    obtain ⟨⟨⟨hlen, hrd⟩, hok1⟩, hok2⟩ := hok
    have mem : ∀ i, i ∈ Region.ready .any l.toArray S ↔ i = p ∨ i = q := by
      intro i
      rw [lst_ready hL hb]
      constructor
      · intro h1
        have h2 : i ∈ rdys l L := List.mem_filter.2 ⟨List.mem_range.2 (by have := (mem_ready.1 ((lst_ready hL hb).2 h1)).1; simpa using this), h1⟩
        rw [hrd] at h2; simpa using h2
      · intro h1
        have h2 : i ∈ rdys l L := by rw [hrd]; simpa using h1
        exact (List.mem_filter.1 h2).2
    obtain ⟨m, rfl⟩ : ∃ k, m = k + 1 := ⟨m - 1, by omega⟩
    have hp := (mem p).2 (.inl rfl)
    have hq := (mem q).2 (.inr rfl)
    have br : ∀ (x : Nat) (t' : OT), x ∈ Region.ready .any l.toArray S → otOk l (masks l) (x :: L) t' = true → (∀ F' H', aTree P l K t' F' H' → aAny P l.toArray K m (S.setIfInBounds x true) F' H') → aIdx P l.toArray (aTree P l K t') x F H → aIdx P l.toArray (aAny P l.toArray K m (S.setIfInBounds x true)) x F H := by
      intro x t' hx _ ih hh
      unfold aIdx at hh ⊢
      split at hh
      · exact aGuard_mono ih hh
      · exact ih _ _ hh
    have hlt : ∀ x, x ∈ Region.ready .any l.toArray S → x < l.length := fun x hx => by have := (mem_ready.1 hx).1; simpa using this
    have ihp := fun F' H' => any_tree t m (p :: L) (S.setIfInBounds p true) F' H' (lst_set hL (hlt p hp)) (closed_set hS (by simpa using hL.1) hp) (by intro x hx; rcases List.mem_cons.1 hx with rfl | hx; exact hlt _ hp; exact hb x hx) (by simp; omega) hok1
    have ihq := fun F' H' => any_tree u m (q :: L) (S.setIfInBounds q true) F' H' (lst_set hL (hlt q hq)) (closed_set hS (by simpa using hL.1) hq) (by intro x hx; rcases List.mem_cons.1 hx with rfl | hx; exact hlt _ hq; exact hb x hx) (by simp; omega) hok2
    refine ⟨fun h0 => absurd hp (by rw [h0]; simp), fun i hi => ?_⟩
    rcases (mem i).1 hi with rfl | rfl
    · exact br i t hi hok1 ihp h.1
    · exact br i u hi hok2 ihq h.2
  | .three p t q u r v, m, L, S, F, H, hL, hS, hb, hm, hok, h => by
    simp only [otOk, Bool.and_eq_true, beq_iff_eq, decide_eq_true_eq] at hok
    obtain ⟨⟨⟨⟨hlen, hrd⟩, hok1⟩, hok2⟩, hok3⟩ := hok
    have mem : ∀ i, i ∈ Region.ready .any l.toArray S ↔ i = p ∨ i = q ∨ i = r := by
      intro i
      rw [lst_ready hL hb]
      constructor
      · intro h1
        have h2 : i ∈ rdys l L := List.mem_filter.2 ⟨List.mem_range.2 (by have := (mem_ready.1 ((lst_ready hL hb).2 h1)).1; simpa using this), h1⟩
        rw [hrd] at h2; simpa using h2
      · intro h1
        have h2 : i ∈ rdys l L := by rw [hrd]; simpa using h1
        exact (List.mem_filter.1 h2).2
    obtain ⟨m, rfl⟩ : ∃ k, m = k + 1 := ⟨m - 1, by omega⟩
    have hp := (mem p).2 (.inl rfl)
    have hq := (mem q).2 (.inr (.inl rfl))
    have hr := (mem r).2 (.inr (.inr rfl))
    have br : ∀ (x : Nat) (t' : OT), x ∈ Region.ready .any l.toArray S → otOk l (masks l) (x :: L) t' = true → (∀ F' H', aTree P l K t' F' H' → aAny P l.toArray K m (S.setIfInBounds x true) F' H') → aIdx P l.toArray (aTree P l K t') x F H → aIdx P l.toArray (aAny P l.toArray K m (S.setIfInBounds x true)) x F H := by
      intro x t' hx _ ih hh
      unfold aIdx at hh ⊢
      split at hh
      · exact aGuard_mono ih hh
      · exact ih _ _ hh
    have hlt : ∀ x, x ∈ Region.ready .any l.toArray S → x < l.length := fun x hx => by have := (mem_ready.1 hx).1; simpa using this
    have ihp := fun F' H' => any_tree t m (p :: L) (S.setIfInBounds p true) F' H' (lst_set hL (hlt p hp)) (closed_set hS (by simpa using hL.1) hp) (by intro x hx; rcases List.mem_cons.1 hx with rfl | hx; exact hlt _ hp; exact hb x hx) (by simp; omega) hok1
    have ihq := fun F' H' => any_tree u m (q :: L) (S.setIfInBounds q true) F' H' (lst_set hL (hlt q hq)) (closed_set hS (by simpa using hL.1) hq) (by intro x hx; rcases List.mem_cons.1 hx with rfl | hx; exact hlt _ hq; exact hb x hx) (by simp; omega) hok2
    have ihr := fun F' H' => any_tree v m (r :: L) (S.setIfInBounds r true) F' H' (lst_set hL (hlt r hr)) (closed_set hS (by simpa using hL.1) hr) (by intro x hx; rcases List.mem_cons.1 hx with rfl | hx; exact hlt _ hr; exact hb x hx) (by simp; omega) hok3
    refine ⟨fun h0 => absurd hp (by rw [h0]; simp), fun i hi => ?_⟩
    rcases (mem i).1 hi with rfl | rfl | rfl
    · exact br i t hi hok1 ihp h.1
    · exact br i u hi hok2 ihq h.2.1
    · exact br i v hi hok3 ihr h.2.2
/-- A REGION THAT DRAWS ITS ORDER: some orders stand for all. -/
theorem w_tree {id : Nat} {Q : AExit → Fr → Hp → Prop} (t : OT) (hm : P.follows .mixedOrders = true) (hl : otOk l (masks l) [] t = true) (h : aTree P l (Q .normal) t F H) : AWp P n N L (.region id l.toArray true) Q F H := by
  refine ⟨hm, ?_⟩
  have := any_tree (P := P) (K := Q .normal) (l := l) t l.length [] (Array.replicate l.length false) F H ⟨by simp, fun i hi => by simp [hi]⟩ (by intro i hi; rw [Array.getD_eq_getD_getElem?] at hi; by_cases h : i < l.length <;> simp [h] at hi) (by simp) (by simp) hl h
  simpa using this
end
section
variable (P : Program) (l : List Oper) (K : Fr → Hp → Prop) (F : Fr) (H : Hp)
/-- one operation of a tree -/
def aAt (P : Program) (l : List Oper) (K : Fr → Hp → Prop) (t : OT) (o : Option Oper) (F : Fr) (H : Hp) : Prop := match o with
  | some o => aGuard P l.toArray o (aTree P l K t) F H
  | none => aTree P l K t F H
def opAt : List Oper → Nat → Option Oper
  | [], _ => none
  | o :: _, 0 => some o
  | _ :: l, j + 1 => opAt l j
theorem opAt_eq : ∀ (l : List Oper) (j : Nat), l[j]? = opAt l j
  | [], j => by simp [opAt]
  | o :: l, 0 => by simp [opAt]
  | o :: l, j + 1 => by simp [opAt, opAt_eq l j]
@[go_sem ↓] theorem opat_zero (o : Oper) (l : List Oper) : opAt (o :: l) 0 = some o := (rfl)
@[go_sem ↓] theorem opat_succ (o : Oper) (l : List Oper) (j : Nat) : opAt (o :: l) (j + 1) = opAt l j := (rfl)
@[go_sem ↓] theorem t_done : aTree P l K .done F H = K F H := (rfl)
theorem aIdx_at (t : OT) (p : Nat) : aIdx P l.toArray (aTree P l K t) p F H = aAt P l K t (opAt l p) F H := by
  unfold aIdx aAt
  rw [List.getElem?_toArray, opAt_eq]
  cases opAt l p <;> rfl
@[go_sem ↓] theorem t_one (p : Nat) (t : OT) : aTree P l K (.one p t) F H = aAt P l K t (opAt l p) F H := aIdx_at P l K F H t p
@[go_sem ↓] theorem t_two (p q : Nat) (t u : OT) : aTree P l K (.two p t q u) F H = (aAt P l K t (opAt l p) F H ∧ aAt P l K u (opAt l q) F H) := by
  rw [← aIdx_at, ← aIdx_at]; rfl
@[go_sem ↓] theorem t_three (p q r : Nat) (t u v : OT) : aTree P l K (.three p t q u r v) F H = (aAt P l K t (opAt l p) F H ∧ aAt P l K u (opAt l q) F H ∧ aAt P l K v (opAt l r) F H) := by
  rw [← aIdx_at, ← aIdx_at, ← aIdx_at]; rfl
@[congr] theorem aat_congr {t : OT} {o o' : Option Oper} {H H' : Hp} (h1 : o = o') (h2 : H = H') : aAt P l K t o F H = aAt P l K t o' F H' := by rw [h1, h2]
def ContT (P : Program) (l : List Oper) (K : Fr → Hp → Prop) (t : OT) (F : Fr) (dst : Option Tmp) : AV → Hp → Prop := fun v H' => aTree P l K t (F.put dst v) H'
@[go_sem ↓] theorem contt_go (t : OT) (dst : Option Tmp) (v : AV) : ContT P l K t F dst v H = aTree P l K t (F.put dst v) H := (rfl)
@[go_sem ↓] theorem at_plain (t : OT) (dst : Option Tmp) (op : Op) (ty : TypeId) (pos : String) (after : Array Edge) : aAt P l K t (some ⟨dst, op, ty, pos, after, none⟩) F H = aOp P op (evC F) H (ContT P l K t F dst) := (rfl)
/-- one operation of a tree, under a guard -/
def aGT (P : Program) (v : AV) (want : Bool) (op : Op) (l : List Oper) (K : Fr → Hp → Prop) (t : OT) (F : Fr) (dst : Option Tmp) (H : Hp) : Prop := match v with
  | .c (.bool b) => (b = want → aOp P op (evC F) H (ContT P l K t F dst)) ∧ (b = !want → aTree P l K t (F.put dst (.tup [])) H)
  | .tup [] => aTree P l K t (F.put dst (.tup [])) H
  | _ => False
def aGT2 (P : Program) (x : Option Tmp) (want : Bool) (op : Op) (l : List Oper) (K : Fr → Hp → Prop) (t : OT) (F : Fr) (dst : Option Tmp) (H : Hp) : Prop := match x with
  | some x => aGT P (F x) want op l K t F dst H
  | none => False
@[congr] theorem agt_congr {v v' : AV} {want : Bool} {op : Op} {t : OT} {dst : Option Tmp} (h : v = v') : aGT P v want op l K t F dst H = aGT P v' want op l K t F dst H := by rw [h]
@[congr] theorem agt2_congr {x x' : Option Tmp} {want : Bool} {op : Op} {t : OT} {dst : Option Tmp} (h : x = x') : aGT2 P x want op l K t F dst H = aGT2 P x' want op l K t F dst H := by rw [h]
@[go_sem ↓] theorem at_guard (t : OT) (dst : Option Tmp) (op : Op) (ty : TypeId) (pos : String) (after : Array Edge) (j : Nat) (want : Bool) : aAt P l K t (some ⟨dst, op, ty, pos, after, some (j, want)⟩) F H = aGT2 P (dstAt l j) want op l K t F dst H := by
  simp only [aAt, aGuard, aGT2, List.getElem?_toArray, dstAt_eq]
  cases dstAt l j with
  | none => rfl
  | some x =>
    simp only [aGT]
    generalize F x = v
    cases v with
    | c y => cases y <;> rfl
    | tup ts => cases ts <;> rfl
    | _ => rfl
variable (op : Op) (t : OT) (dst : Option Tmp)
@[go_sem] theorem agt2_some (x : Tmp) (want : Bool) : aGT2 P (some x) want op l K t F dst H = aGT P (F x) want op l K t F dst H := (rfl)
@[go_sem] theorem agt_skip (want : Bool) : aGT P (.tup []) want op l K t F dst H = aTree P l K t (F.put dst (.tup [])) H := (rfl)
@[go_sem] theorem agt_tt : aGT P (.c (.bool true)) true op l K t F dst H = aOp P op (evC F) H (ContT P l K t F dst) := by simp [aGT]
@[go_sem] theorem agt_tf : aGT P (.c (.bool true)) false op l K t F dst H = aTree P l K t (F.put dst (.tup [])) H := by simp [aGT]
@[go_sem] theorem agt_ft : aGT P (.c (.bool false)) true op l K t F dst H = aTree P l K t (F.put dst (.tup [])) H := by simp [aGT]
@[go_sem] theorem agt_ff : aGT P (.c (.bool false)) false op l K t F dst H = aOp P op (evC F) H (ContT P l K t F dst) := by simp [aGT]
@[go_sem] theorem agt_not (b want : Bool) : aGT P (.c (.bool (!b))) want op l K t F dst H = aGT P (.c (.bool b)) (!want) op l K t F dst H := by
  cases b <;> cases want <;> simp [aGT]
variable {P l K F H op t dst} in
theorem agt_d {p : Prop} [Decidable p] (h1 : p → aOp P op (evC F) H (ContT P l K t F dst)) (h2 : ¬p → aTree P l K t (F.put dst (.tup [])) H) : aGT P (.c (.bool (decide p))) true op l K t F dst H := ⟨fun h => h1 (of_decide_eq_true h), fun h => h2 (of_decide_eq_false h)⟩
variable {P l K F H op t dst} in
theorem agt_n {p : Prop} [Decidable p] (h1 : ¬p → aOp P op (evC F) H (ContT P l K t F dst)) (h2 : p → aTree P l K t (F.put dst (.tup [])) H) : aGT P (.c (.bool (decide p))) false op l K t F dst H := ⟨fun h => h1 (of_decide_eq_false h), fun h => h2 (of_decide_eq_true h)⟩
variable {P l K F H op t dst} in
theorem agt_bt {b : Bool} (h1 : b = true → aOp P op (evC F) H (ContT P l K t F dst)) (h2 : b = false → aTree P l K t (F.put dst (.tup [])) H) : aGT P (.c (.bool b)) true op l K t F dst H := ⟨h1, h2⟩
variable {P l K F H op t dst} in
theorem agt_bf {b : Bool} (h1 : b = false → aOp P op (evC F) H (ContT P l K t F dst)) (h2 : b = true → aTree P l K t (F.put dst (.tup [])) H) : aGT P (.c (.bool b)) false op l K t F dst H := ⟨h1, h2⟩
end
/-! ### loops -/
end Go.Proofs.YtkmkkjlfnobciaaGreatDoor
