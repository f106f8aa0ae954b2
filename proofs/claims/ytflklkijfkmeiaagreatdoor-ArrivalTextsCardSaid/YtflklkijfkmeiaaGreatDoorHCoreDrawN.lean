/- Regions that draw their order, as in CoreDrawS; a new cell may also run beside what reads. -/
import Derived.Test.YtflklkijfkmeiaaGreatDoorHCoreDrawS
import Derived.Test.YtflklkijfkmeiaaGreatDoorHCoreC
namespace Go.Proofs.YtflklkijfkmeiaaGreatDoor
open Go Go.RowKit
set_option linter.all false
variable {P : Program} {dom : FuncId → Bool} {sp : FuncId → List AV → Option AV} {n N : Nat} {L : List Tmp} {ops : Array Oper} {K K' : Fr → Hp → Prop} {F : Fr} {H : Hp} {o : Oper}
def linAtN (P : Program) (dom : FuncId → Bool) (sp : FuncId → List AV → Option AV) (ops : Array Oper) (ms : List Nat) (p : Nat) (o : Oper) : Bool :=
  (o.after.toList.all fun e => !Region.binds .any e || decide (e.on < p)) &&
  (((List.range ops.size).all fun i => decide (i ≤ p) || (ms.getD i 0).testBit p) ||
   (quietY (sysS P dom sp) o && (List.range ops.size).all fun i => decide (i ≤ p) || (ms.getD i 0).testBit p || (match ops[i]? with | some q => o.apart ops q && ((sysS P dom sp).cA o.op || quietY (sysS P dom sp) q || ((sysS P dom sp).cB o.op && newB q)) | none => false)))
def linGoN (P : Program) (dom : FuncId → Bool) (sp : FuncId → List AV → Option AV) (ops : Array Oper) (ms : List Nat) : Nat → List Oper → Bool
  | _, [] => true
  | p, o :: rest => linAtN P dom sp ops ms p o && linGoN P dom sp ops ms (p + 1) rest
def linOkN (P : Program) (dom : FuncId → Bool) (sp : FuncId → List AV → Option AV) (l : List Oper) : Bool := linGoN P dom sp l.toArray (masks l) 0 l
theorem sysS_op : (sysS P dom sp).op = aOpS P dom sp := rfl
theorem aOpS_alloc (t : TypeId) (ev : Operand → AV) (H : Hp) (K : AV → Hp → Prop) : aOpS P dom sp (.alloc t) ev H K = aOp P (.alloc t) ev H K := aOpS_not rfl
theorem aOpS_lit (t : TypeId) (k : Nat) (ps) (ev : Operand → AV) (H : Hp) (K : AV → Hp → Prop) : aOpS P dom sp (.buildSlice t k ps) ev H K = aOp P (.buildSlice t k ps) ev H K := aOpS_not rfl
theorem clsB_pure {op : Op} (h : clsB op = true) : pureOp dom op = false := by
  cases op <;> first | (cases h; done) | rfl | skip
theorem gv_putN {o : Oper} {d : Option Tmp} {v u : AV} {H' : Hp} (h : ∀ d', d = some d' → d' ∉ o.looksAt ops) (hH : (sysS P dom sp).cA o.op = true ∨ H' = H ∨ ((sysS P dom sp).cB o.op = true ∧ ∃ G, H' = H ++ G)) (hg : GVY (sysS P dom sp) ops o F H v) : GVY (sysS P dom sp) ops o (F.put d u) H' v := by
  rcases hH with hA | hE | ⟨hB, G, rfl⟩
  · exact gv_putY h (.inl hA) hg
  · exact gv_putY h (.inr hE) hg
  · have hB' : clsB o.op = true := hB
    have h1 := gv_putY (d := d) (u := u) h (.inr rfl) hg
    have hrv : RVY (sysS P dom sp) o.op (evC (F.put d u)) H v → RVY (sysS P dom sp) o.op (evC (F.put d u)) (H ++ G) v := by
      intro hr
      unfold RVY at hr ⊢
      rw [sysS_op, aOpS_not (clsB_pure hB')] at hr ⊢
      exact clsB_app hB' hr
    unfold GVY at h1 ⊢
    split at h1
    · exact hrv h1
    · split at h1
      · split at h1
        · exact ⟨fun e => hrv (h1.1 e), h1.2⟩
        · exact h1
        · exact h1.elim
      · exact h1.elim
theorem postponeN {p : Nat} {o : Oper} {v : AV} {L : Nat → Prop} (ho : ops[p]? = some o) (hst : ∀ (S : Array Bool), Closed ops S → S.getD p true = false → (∀ q, L q → S.getD q false = true) → ∀ i, i ∈ Region.ready .any ops S → i ≠ p → ∃ q, ops[i]? = some q ∧ o.apart ops q = true ∧ ((sysS P dom sp).cA o.op = true ∨ quietY (sysS P dom sp) q = true ∨ ((sysS P dom sp).cB o.op = true ∧ newB q = true))) :
    ∀ (m : Nat) (S : Array Bool) (F : Fr) (H : Hp), S.size = ops.size → Closed ops S → (∀ q, L q → S.getD q false = true) → p ∈ Region.ready .any ops S → GVY (sysS P dom sp) ops o F H v → aAnyY (sysS P dom sp) ops K m (S.setIfInBounds p true) (F.put o.dst v) H → aAnyY (sysS P dom sp) ops K (m + 1) S F H
  | m, S, F, H, hsz, hS, hpre, hp, hg, h => by
    have hpn : S.getD p true = false := (mem_ready.1 hp).2.1
    have hp' : p < S.size := by rw [hsz]; exact (mem_ready.1 hp).1
    refine ⟨fun h0 => absurd hp (by rw [h0]; simp), fun i hi => ?_⟩
    by_cases hip : i = p
    · subst hip
      unfold aIdxY
      rw [ho]
      exact gv_guardY hg h
    · obtain ⟨q, hq, hap, hcl⟩ := hst S hS hpn hpre i hi hip
      obtain ⟨a1, a2, a3⟩ := Oper.apart_spec hap
      have hi2 := ready_keep hsz hi hp hip
      unfold aIdxY
      rw [hq]
      dsimp only
      cases m with
      | zero =>
        have := h.1
        rw [this] at hi2
        cases hi2
      | succ m =>
        have h1 := h.2 i hi2
        unfold aIdxY at h1
        rw [hq] at h1
        dsimp only at h1
        have h2 := guard_putY a1 a2 h1
        have hpi : p ∈ Region.ready .any ops (S.setIfInBounds i true) := ready_keep hsz hp hi (fun e => hip e.symm)
        have hi' : i < S.size := by rw [hsz]; exact (mem_ready.1 hi).1
        have hpre' : ∀ q, L q → (S.setIfInBounds i true).getD q false = true := fun q hq => by
          rw [getD_set hi']; split
          · rfl
          · exact hpre q hq
        have hcomm : (S.setIfInBounds p true).setIfInBounds i true = (S.setIfInBounds i true).setIfInBounds p true := Array.setIfInBounds_comm _ _ (fun e => hip e.symm)
        rw [hcomm] at h2
        have step : ∀ (F' : Fr) (H' : Hp), GVY (sysS P dom sp) ops o F' H' v → aAnyY (sysS P dom sp) ops K m ((S.setIfInBounds i true).setIfInBounds p true) (F'.put o.dst v) H' → aAnyY (sysS P dom sp) ops K (m + 1) (S.setIfInBounds i true) F' H' :=
          fun F' H' g k => postponeN ho hst m (S.setIfInBounds i true) F' H' (by simpa using hsz) (closed_set hS hsz hi) hpre' hpi g k
        -- the value stays: either the operation does not look at the heap, or what runs now does not turn it
        rcases hcl with hA | hQ | ⟨hB, hN⟩
        · have hop : (sysS P dom sp).op q.op (evC F) H (fun u H' => aAnyY (sysS P dom sp) ops K m ((S.setIfInBounds i true).setIfInBounds p true) ((F.put q.dst u).put o.dst v) H') → (sysS P dom sp).op q.op (evC F) H (fun u H' => aAnyY (sysS P dom sp) ops K (m + 1) (S.setIfInBounds i true) (F.put q.dst u) H') :=
            fun hr => (sysS P dom sp).mono (fun u H' hk => step _ _ (gv_putN a3 (.inl hA) hg) hk) hr
          unfold aGuardY at h2 ⊢
          split at h2
          · exact hop h2
          · split at h2
            · split at h2
              · exact ⟨fun e => hop (h2.1 e), fun e => step _ _ (gv_putN a3 (.inl hA) hg) (h2.2 e)⟩
              · exact step _ _ (gv_putN a3 (.inl hA) hg) h2
              · exact h2.elim
            · exact h2.elim
        · obtain ⟨u, g1, g2⟩ := guard_gvY hQ h2
          exact gv_guardY g1 (step _ _ (gv_putN a3 (.inr (.inl rfl)) hg) g2)
        · obtain ⟨qd, qo, qt, qp, qa, qg⟩ := q
          unfold newB at hN
          dsimp only at hN
          split at hN
          · unfold aGuardY at h2 ⊢
            dsimp only at h2 ⊢
            simp only [sysS_op, aOpS_alloc, aOp] at h2 ⊢
            unfold aNew at h2 ⊢
            split at h2
            · exact step _ _ (gv_putN a3 (.inr (.inr ⟨hB, _, rfl⟩)) hg) h2
            · exact h2.elim
          · unfold aGuardY at h2 ⊢
            dsimp only at h2 ⊢
            simp only [sysS_op, aOpS_lit, aOp] at h2 ⊢
            unfold aLit at h2 ⊢
            split at h2
            · exact ⟨h2.1, h2.2.1, h2.2.2.1, h2.2.2.2.1, step _ _ (gv_putN a3 (.inr (.inr ⟨hB, _, rfl⟩)) hg) h2.2.2.2.2⟩
            · exact h2.elim
          · cases hN
theorem any_linN {l : List Oper} : ∀ (rest : List Oper) (k : Nat) (S : Array Bool) (F : Fr) (H : Hp), (∀ j, rest[j]? = l[k + j]?) → k + rest.length = l.length → S.size = l.length → (∀ i, i < l.length → S.getD i true = decide (i < k)) → (∀ i, i < k → ∀ o, l.toArray[i]? = some o → ∀ e ∈ o.after, Region.binds .any e = true → e.on < i) →
    linGoN P dom sp l.toArray (masks l) k rest = true → aOpsY (sysS P dom sp) l.toArray K rest F H → aAnyY (sysS P dom sp) l.toArray K rest.length S F H
  | [], k, S, F, H, _, hk, hSs, hS, _, _, h => by
    refine ⟨?_, h⟩
    refine List.eq_nil_iff_forall_not_mem.2 (fun i hi => ?_)
    obtain ⟨h1, h2, _⟩ := mem_ready.1 hi
    simp at h1 hk
    rw [hS i h1] at h2
    simp at h2; omega
  | o :: rest, k, S, F, H, hr, hk, hSs, hS, hold, hl, h => by
    have ho : l.toArray[k]? = some o := by have := hr 0; simp at this; simpa using this.symm
    have hkl : k < l.length := by simp at hk; omega
    simp only [linGoN, Bool.and_eq_true] at hl
    obtain ⟨hlin, hl⟩ := hl
    unfold linAtN at hlin
    simp only [Bool.and_eq_true] at hlin
    obtain ⟨hpre, hor⟩ := hlin
    have hSf : ∀ i, i < l.length → S.getD i false = decide (i < k) := by
      intro i hi
      have := hS i hi
      rw [Array.getD_eq_getD_getElem?] at this ⊢
      rw [Array.getElem?_eq_getElem (by omega)] at this ⊢
      exact this
    have hSo : ∀ i, S.getD i false = true → i < k := by
      intro i hi
      rcases Nat.lt_or_ge i l.length with hlt | hge
      · rw [hSf i hlt] at hi; simpa using hi
      · rw [Array.getD_eq_getD_getElem?, Array.getElem?_eq_none (by omega)] at hi; cases hi
    have hedge : ∀ e ∈ o.after, Region.binds .any e = true → S.getD e.on false = true := by
      intro e he hb
      have := List.all_eq_true.1 hpre e (by simpa using he)
      simp [hb] at this
      rw [hSf e.on (by omega)]; simpa using this
    have hkr : k ∈ Region.ready .any l.toArray S := mem_ready.2 ⟨by simpa using hkl, by rw [hS k hkl]; simp, o, ho, hedge⟩
    have hS' : ∀ i, i < l.length → (S.setIfInBounds k true).getD i true = decide (i < k + 1) := by
      intro i hi
      rw [getD_set (by omega)]
      by_cases e : i = k
      · subst e; simp
      · rw [if_neg e, hS i hi]; congr 1; exact propext (by omega)
    have hedge2 : ∀ e ∈ o.after, Region.binds .any e = true → e.on < k := by
      intro e he hb
      have := List.all_eq_true.1 hpre e (by simpa using he)
      simpa [hb] using this
    have hold' : ∀ i, i < k + 1 → ∀ o, l.toArray[i]? = some o → ∀ e ∈ o.after, Region.binds .any e = true → e.on < i := by
      intro i hi q hq e he hb
      by_cases hik : i = k
      · subst hik
        have : q = o := by rw [ho] at hq; injection hq with hq; exact hq.symm
        subst this
        exact hedge2 e he hb
      · exact hold i (by omega) q hq e he hb
    have ih := fun F' H' => any_linN rest (k + 1) (S.setIfInBounds k true) F' H' (fun j => by have := hr (j + 1); simpa [Nat.add_assoc, Nat.add_comm 1 j] using this) (by simp at hk; omega) (by simpa using hSs) hS' hold' hl
    have hcl : Closed l.toArray S := by
      intro i hi q hq e he hb
      have hik := hSo i hi
      have := hold i hik q hq e he hb
      rw [hSf e.on (by omega)]; simp; omega
    have hlate : ∀ (T : Array Bool), Closed l.toArray T → T.getD k true = false → (∀ q, q < k → T.getD q false = true) → ∀ i, i ∈ Region.ready .any l.toArray T → i ≠ k → k < i ∧ ((masks l).getD i 0).testBit k = false := by
      intro T hT hTk hTp i hi hne
      obtain ⟨h1, h2, q, hq, h3⟩ := mem_ready.1 hi
      refine ⟨?_, ?_⟩
      · rcases Nat.lt_or_ge i k with hlt | hge
        · have := hTp i hlt
          rw [Array.getD_eq_getD_getElem?] at this h2
          cases ht : T[i]? with
          | none => rw [ht] at this; cases this
          | some b => rw [ht] at this h2; simp at this h2; rw [this] at h2; cases h2
        · omega
      · cases hb : ((masks l).getD i 0).testBit k with
        | false => rfl
        | true =>
          have := masks_spec hT hq h3 hb
          rw [Array.getD_eq_getD_getElem?] at this hTk
          cases ht : T[k]? with
          | none => rw [ht] at this; cases this
          | some b => rw [ht] at this hTk; simp at this hTk; rw [this] at hTk; cases hTk
    have hSk : S.getD k true = false := by rw [hS k hkl]; simp
    have hSp : ∀ q, q < k → S.getD q false = true := fun q hq => by rw [hSf q (by omega)]; simpa using hq
    simp only [Bool.or_eq_true, Bool.and_eq_true] at hor
    rcases hor with hsole | ⟨hq, hall⟩
    · have hone : ∀ i, i ∈ Region.ready .any l.toArray S → i = k := by
        intro i hi
        by_cases hne : i = k
        · exact hne
        · obtain ⟨g1, g2⟩ := hlate S hcl hSk hSp i hi hne
          have hin : i < l.toArray.size := (mem_ready.1 hi).1
          have := List.all_eq_true.1 hsole i (List.mem_range.2 hin)
          simp only [Bool.or_eq_true, decide_eq_true_eq] at this
          rcases this with h5 | h5
          · omega
          · rw [g2] at h5; cases h5
      refine ⟨fun h0 => absurd hkr (by rw [h0]; simp), fun i hi => ?_⟩
      have := hone i hi
      subst this
      unfold aIdxY
      rw [ho]
      exact aGuard_monoY (fun F' H' hk' => ih F' H' hk') h
    · obtain ⟨v, hg, hrest⟩ := guard_gvY hq h
      refine postponeN (L := fun q => q < k) ho (fun T hT hTk hTp i hi hne => ?_) rest.length S F H (by simpa using hSs) hcl hSp hkr hg (ih _ _ hrest)
      obtain ⟨g1, g2⟩ := hlate T hT hTk hTp i hi hne
      have hin : i < l.toArray.size := (mem_ready.1 hi).1
      have := List.all_eq_true.1 hall i (List.mem_range.2 hin)
      simp only [Bool.or_eq_true, decide_eq_true_eq] at this
      rcases this with (h5 | h5) | h5
      · omega
      · rw [g2] at h5; cases h5
      · split at h5
        · rename_i q hq'
          simp only [Bool.and_eq_true, Bool.or_eq_true] at h5
          exact ⟨q, hq', h5.1, or_assoc.1 h5.2⟩
        · cases h5
theorem w_drawN {id : Nat} {l : List Oper} {Q : AExit → Fr → Hp → Prop} (hs : SpecOk P dom sp) (hm : P.follows .mixedOrders = true) (hl : linOkN P dom sp l = true) (h : aOpsY (sysS P dom sp) l.toArray (Q .normal) l F H) : AWp P n N L (.region id l.toArray true) Q F H := by
  refine ⟨hm, ?_⟩
  have := any_linN (K := Q .normal) (l := l) l 0 (Array.replicate l.length false) F H (by simp) (by simp) (by simp) (fun i hi => by simp [hi]) (by intro i hi; omega) hl h
  exact aAnyS_run hs _ _ _ _ (by simpa using this)
end Go.Proofs.YtflklkijfkmeiaaGreatDoor
