/- Code over the plain heap. No condition. -/
import Derived.Test.YtkmkkjlfnobciaaGreatDoorCoreMono
import Derived.Tactics
namespace Go.Proofs.YtkmkkjlfnobciaaGreatDoor
open Go Go.RowKit
set_option linter.all false

inductive AExit where
  | normal
  | exit (id : Nat)
  | ret
/-- an operation under its guard -/
def aGuard (P : Program) (ops : Array Oper) (o : Oper) (K : Fr → Hp → Prop) (F : Fr) (H : Hp) : Prop :=
  match o.guard with
  | none => aOp P o.op (evC F) H (fun v H' => K (F.put o.dst v) H')
  | some (j, want) => match (ops[j]?).bind (·.dst) with
    | some t => match F t with
      | .c (.bool b) => (b = want → aOp P o.op (evC F) H (fun v H' => K (F.put o.dst v) H')) ∧ (b = !want → K (F.put o.dst (.tup [])) H)
      | .tup [] => K (F.put o.dst (.tup [])) H
      | _ => False
    | none => False
def aOps (P : Program) (ops : Array Oper) (K : Fr → Hp → Prop) : List Oper → Fr → Hp → Prop
  | [], F, H => K F H
  | o :: rest, F, H => aGuard P ops o (aOps P ops K rest) F H
def aIdx (P : Program) (ops : Array Oper) (K : Fr → Hp → Prop) (i : Nat) (F : Fr) (H : Hp) : Prop :=
  match ops[i]? with
  | some o => aGuard P ops o K F H
  | none => K F H
/-- every order that the edges allow -/
def aAny (P : Program) (ops : Array Oper) (K : Fr → Hp → Prop) : Nat → Array Bool → Fr → Hp → Prop
  | 0, listed, F, H => Region.ready .any ops listed = [] ∧ K F H
  | fuel + 1, listed, F, H => (Region.ready .any ops listed = [] → K F H) ∧ ∀ i ∈ Region.ready .any ops listed, aIdx P ops (aAny P ops K fuel (listed.setIfInBounds i true)) i F H
def HOk (H : Hp) : Prop := ∀ (i : Nat) (o : AObj), H[i]? = some o → o.okN H.length
/-- the state, at some place -/
def St (B : Nat) (w0 : World) (ι0 : En) (n N : Nat) (K : Fr → Hp → Prop) (a : Act) (w : World) : Prop :=
  ∃ ι F H, Agree n ι0 ι ∧ n ≤ H.length ∧ Sim B w0 ι H w ∧ FOk N ι H.length F a ∧ K F H
def CQ (B : Nat) (w0 : World) (ι0 : En) (n N : Nat) (Q : AExit → Fr → Hp → Prop) : Exit → Act → World → Prop
  | .normal, a, w => St B w0 ι0 n N (Q .normal) a w
  | .exit id, a, w => St B w0 ι0 n N (Q (.exit id)) a w
  | .ret, a, w => St B w0 ι0 n N (Q .ret) a w
  | _, _, _ => False
/-- the variables that code sets -/
def asgOps (l : List Oper) : List Tmp := l.filterMap (·.dst)
def asg : Code → List Tmp
  | .seq x y => asg x ++ asg y
  | .cond _ x y => asg x ++ asg y
  | .block _ c => asg c
  | .loop c => asg c
  | .region _ ops _ => asgOps ops.toList
  | _ => []
/-- what is said of code, whatever the world: and what the code does not set stays -/
def QF (L : List Tmp) (c : Code) (F0 : Fr) (Q : AExit → Fr → Hp → Prop) : AExit → Fr → Hp → Prop := fun e F H => Q e F H ∧ ∀ t ∈ L, t ∉ asg c → F t = F0 t
def SWp (P : Program) (n N : Nat) (L : List Tmp) (c : Code) (Q : AExit → Fr → Hp → Prop) (F : Fr) (H : Hp) : Prop :=
  ∀ B w0 ι0 ι a w, Agree n ι0 ι → n ≤ H.length → Sim B w0 ι H w → FOk N ι H.length F a → c.wp P (CQ B w0 ι0 n N (QF L c F Q)) a w
def AWp (P : Program) (n N : Nat) (L : List Tmp) : Code → (AExit → Fr → Hp → Prop) → Fr → Hp → Prop
  | .skip, Q, F, H => Q .normal F H
  | .label _, Q, F, H => Q .normal F H
  | .seq x y, Q, F, H => AWp P n N L x (fun e F H => match e with | .normal => AWp P n N L y Q F H | e => Q e F H) F H
  | .cond c x y, Q, F, H => match evC F c with
    | .c (.bool b) => (b = true → AWp P n N L x Q F H) ∧ (b = false → AWp P n N L y Q F H)
    | _ => False
  | .block id c, Q, F, H => AWp P n N L c (fun e F H => match e with | .exit id' => (if id' = id then Q .normal F H else Q (.exit id') F H) | e => Q e F H) F H
  | .exit id, Q, F, H => Q (.exit id) F H
  | .ret, Q, F, H => Q .ret F H
  | .loop c, Q, F, H => SWp P n N L (.loop c) Q F H
  | .region _ ops false, Q, F, H => aOps P ops (Q .normal) ops.toList F H
  | .region _ ops true, Q, F, H => P.follows .mixedOrders = true ∧ aAny P ops (Q .normal) ops.size (Array.replicate ops.size false) F H
  | _, _, _, _ => False
def opsOk (N : Nat) (ops : Array Oper) : Bool := ops.all fun o => match o.dst with | some d => d < N | none => true
def codeOk (N : Nat) : Code → Bool
  | .seq x y => codeOk N x && codeOk N y
  | .cond _ x y => codeOk N x && codeOk N y
  | .block _ c => codeOk N c
  | .loop c => codeOk N c
  | .region _ ops _ => opsOk N ops
  | _ => true

section
variable {P : Program} {B : Nat} {w0 w w' : World} {ι ι' ι0 : En} {H : Hp} {F : Fr} {a : Act} {N n m : Nat} {L : List Tmp} {o : Oper}
theorem Sim.hok (h : Sim B w0 ι H w) : HOk H := h.scope
theorem stepK_next {K : Fr → Hp → Prop} {next : Act → World → Prop} {a' : Act} (hA : Agree n ι0 ι) (hn : n ≤ H.length) (hF : FOk N ι H.length F a) (hd : ∀ t, o.dst = some t → t < N)
    (hk : ∀ a w, St B w0 ι0 n N K a w → next a w) (h : StepK B w0 ι H.length a o.dst (fun v H' => K (F.put o.dst v) H') a' w') : next a' w' := by
  obtain ⟨ι', v, av, H', rfl, h1, h2, h3, h4, h5, h6⟩ := h
  exact hk _ _ ⟨ι', _, H', hA.trans h1 hn, by omega, h3, (hF.agree h1 h2).put hd h4 h5, h6⟩
theorem undef_rel : (AV.tup []).rel ι undef := ⟨[], rfl, trivial⟩
theorem aGuard_sound {ops : Array Oper} {K : Fr → Hp → Prop} {next : Act → World → Prop} {Q : Exit → Act → World → Prop} (hA : Agree n ι0 ι) (hn : n ≤ H.length) (hs : Sim B w0 ι H w) (hF : FOk N ι H.length F a) (hd : ∀ t, o.dst = some t → t < N)
    (hk : ∀ a w, St B w0 ι0 n N K a w → next a w) (h : aGuard P ops o K F H) :
    if Region.wanted o (yielded ops a.tmps) then o.wp P a w next Q else next (a.put o.dst undef) w := by
  have hrun : aOp P o.op (evC F) H (fun v H' => K (F.put o.dst v) H') → o.wp P a w next Q := fun h =>
    Oper.wp_mono (fun a' w' h' => stepK_next hA hn hF hd hk h') (aOp_sound (Q := Q) hs hF h)
  have hskip : K (F.put o.dst (.tup [])) H → next (a.put o.dst undef) w := fun h =>
    hk _ _ ⟨ι, _, H, hA, hn, hs, hF.put hd undef_rel (by intro x hx; cases hx), h⟩
  unfold aGuard at h
  split at h
  · rename_i hg
    rw [if_pos (by simp [Region.wanted, hg])]
    exact hrun h
  · rename_i j want hg
    have hwant : Region.wanted o (yielded ops a.tmps) = (yielded ops a.tmps j == some want) := by simp [Region.wanted, hg]
    rw [hwant]
    split at h
    · rename_i t ht
      have hr := hF.rel t
      split at h
      · rename_i b hb
        rw [hb] at hr
        have hv : a.tmps.getD t undef = .bool b := hr
        have hv2 : a.tmps[t]? = some (.bool b) := by
          rcases Nat.lt_or_ge t a.tmps.size with hlt | hge
          · rw [Array.getElem?_eq_getElem hlt]; simp [Array.getD, hlt] at hv; rw [hv]
          · have : ¬ t < a.tmps.size := Nat.not_lt.2 hge
            simp [Array.getD, this, undef] at hv
        have hy : yielded ops a.tmps j = some b := by simp [yielded, ht, hv2]
        rw [hy]
        by_cases hbw : b = want
        · rw [if_pos (by simp [hbw])]; exact hrun (h.1 hbw)
        · rw [if_neg (by simp [hbw])]; exact hskip (h.2 (by cases b <;> cases want <;> simp_all))
      · rename_i hb
        rw [hb] at hr
        obtain ⟨vs, hv, hvs⟩ := hr
        have : vs = [] := by cases vs with | nil => rfl | cons _ _ => exact hvs.elim
        subst this
        have hne : ∀ b, a.tmps[t]? ≠ some (.bool b) := by
          intro b hb2
          rcases Nat.lt_or_ge t a.tmps.size with hlt | hge
          · rw [Array.getElem?_eq_getElem hlt] at hb2
            simp [Array.getD, hlt] at hv
            rw [hv] at hb2; cases hb2
          · rw [Array.getElem?_eq_none hge] at hb2; cases hb2
        have hy : yielded ops a.tmps j = none := by
          unfold yielded
          rw [ht, Option.bind_some]
          cases hq : a.tmps[t]? with
          | none => rfl
          | some v => cases v <;> first | rfl | exact absurd hq (hne _)
        rw [hy, if_neg (by simp)]
        exact hskip h
      · exact h.elim
    · exact h.elim
theorem aOps_sound {ops : Array Oper} {Q : AExit → Fr → Hp → Prop} : ∀ (l : List Oper), (∀ o ∈ l, ∀ t, o.dst = some t → t < N) → ∀ {a : Act} {w : World} {ι : En} {F : Fr} {H : Hp}, Agree n ι0 ι → n ≤ H.length → Sim B w0 ι H w → FOk N ι H.length F a →
    aOps P ops (Q .normal) l F H → wpList P ops (CQ B w0 ι0 n N Q) l a w
  | [], _, a, w, ι, F, H, hA, hn, hs, hF, h => ⟨ι, F, H, hA, hn, hs, hF, h⟩
  | o :: rest, hd, a, w, ι, F, H, hA, hn, hs, hF, h => by
    have := aGuard_sound (next := wpList P ops (CQ B w0 ι0 n N Q) rest) (Q := CQ B w0 ι0 n N Q) hA hn hs hF (hd o (by simp)) (fun a w ⟨ι, F, H, h1, h2, h3, h4, h5⟩ => aOps_sound rest (fun o ho => hd o (by simp [ho])) h1 h2 h3 h4 h5) h
    unfold wpList
    split
    · rename_i hw; rw [if_pos hw] at this; exact .inl this
    · rename_i hw; rw [if_neg hw] at this; exact this
theorem aAny_sound {ops : Array Oper} {Q : AExit → Fr → Hp → Prop} (hd : ∀ o ∈ ops, ∀ t, o.dst = some t → t < N) : ∀ (fuel : Nat) (listed : Array Bool) {a : Act} {w : World} {ι : En} {F : Fr} {H : Hp}, Agree n ι0 ι → n ≤ H.length → Sim B w0 ι H w → FOk N ι H.length F a →
    aAny P ops (Q .normal) fuel listed F H → wpAny P .any ops (CQ B w0 ι0 n N Q) fuel listed a w
  | 0, listed, a, w, ι, F, H, hA, hn, hs, hF, h => ⟨h.1, ι, F, H, hA, hn, hs, hF, h.2⟩
  | fuel + 1, listed, a, w, ι, F, H, hA, hn, hs, hF, h => by
    refine ⟨fun h0 => ⟨ι, F, H, hA, hn, hs, hF, h.1 h0⟩, fun i hi => ?_⟩
    have h1 := h.2 i hi
    unfold aIdx at h1
    unfold wpOp
    split at h1
    · rename_i o ho
      rw [ho]
      have := aGuard_sound (next := wpAny P .any ops (CQ B w0 ι0 n N Q) fuel (listed.setIfInBounds i true)) (Q := CQ B w0 ι0 n N Q) hA hn hs hF (hd o (Array.mem_of_getElem? ho)) (fun a w ⟨ι, F, H, h1, h2, h3, h4, h5⟩ => aAny_sound hd fuel _ h1 h2 h3 h4 h5) h1
      dsimp only
      split
      · rename_i hw; rw [if_pos hw] at this; exact .inl this
      · rename_i hw; rw [if_neg hw] at this; exact this
    · rename_i ho
      rw [ho]
      exact aAny_sound hd fuel _ hA hn hs hF h1
theorem opsOk_spec {ops : Array Oper} (h : opsOk N ops = true) : ∀ o ∈ ops, ∀ t, o.dst = some t → t < N := by
  intro o ho t ht
  have := Array.all_eq_true_iff_forall_mem.1 h o ho
  rw [ht] at this
  simpa using this
theorem aGuard_frame {ops : Array Oper} {K : Fr → Hp → Prop} (h : aGuard P ops o K F H) : aGuard P ops o (fun F' H' => K F' H' ∧ ∀ t, o.dst ≠ some t → F' t = F t) F H := by
  have hput : ∀ v t, o.dst ≠ some t → F.put o.dst v t = F t := by
    intro v t ht
    cases hd : o.dst with
    | none => rfl
    | some d =>
      have hne : t ≠ d := fun e => ht (by rw [hd, e])
      have : Nat.beq t d = false := Bool.eq_false_iff.2 (fun h => hne (Nat.eq_of_beq_eq_true h))
      simp only [Fr.put, this, cond_false]
  unfold aGuard at h ⊢
  split at h
  · exact aOp_mono (fun v H' hk => ⟨hk, hput v⟩) h
  · split at h
    · split at h
      · exact ⟨fun e => aOp_mono (fun v H' hk => ⟨hk, hput v⟩) (h.1 e), fun e => ⟨h.2 e, hput _⟩⟩
      · exact ⟨h, hput _⟩
      · exact h
    · exact h
theorem aGuard_mono {ops : Array Oper} {K K' : Fr → Hp → Prop} (hk : ∀ F H, K F H → K' F H) (h : aGuard P ops o K F H) : aGuard P ops o K' F H := by
  unfold aGuard at h ⊢
  split at h
  · exact aOp_mono (fun v H' => hk _ _) h
  · split at h
    · split at h
      · exact ⟨fun e => aOp_mono (fun v H' => hk _ _) (h.1 e), fun e => hk _ _ (h.2 e)⟩
      · exact hk _ _ h
      · exact h.elim
    · exact h.elim
theorem aOps_mono {ops : Array Oper} {K K' : Fr → Hp → Prop} (hk : ∀ F H, K F H → K' F H) : ∀ (l : List Oper) (F : Fr) (H : Hp), aOps P ops K l F H → aOps P ops K' l F H
  | [], F, H, h => hk F H h
  | o :: rest, F, H, h => aGuard_mono (fun F H => aOps_mono hk rest F H) h
theorem aOps_frame {ops : Array Oper} {K : Fr → Hp → Prop} : ∀ (l : List Oper) (F : Fr) (H : Hp), aOps P ops K l F H → aOps P ops (fun F' H' => K F' H' ∧ ∀ t, t ∉ asgOps l → F' t = F t) l F H
  | [], F, H, h => ⟨h, fun _ _ => rfl⟩
  | o :: rest, F, H, h => by
    refine aGuard_mono ?_ (aGuard_frame h)
    rintro F1 H1 ⟨h1, h2⟩
    refine aOps_mono ?_ rest F1 H1 (aOps_frame rest F1 H1 h1)
    rintro F2 H2 ⟨h3, h4⟩
    refine ⟨h3, fun t ht => ?_⟩
    simp only [asgOps, List.filterMap_cons] at ht h4
    cases hd : o.dst with
    | none => rw [hd] at ht; rw [h4 t ht, h2 t (by rw [hd]; simp)]
    | some d =>
      rw [hd] at ht
      simp only [List.mem_cons, not_or] at ht
      rw [h4 t ht.2, h2 t (by rw [hd]; intro e; injection e with e; exact ht.1 e.symm)]
theorem aIdx_frame {ops : Array Oper} {K : Fr → Hp → Prop} {i : Nat} (h : aIdx P ops K i F H) : aIdx P ops (fun F' H' => K F' H' ∧ ∀ t, t ∉ asgOps ops.toList → F' t = F t) i F H := by
  unfold aIdx at h ⊢
  split at h
  · rename_i o ho
    refine aGuard_mono ?_ (aGuard_frame h)
    rintro F1 H1 ⟨h1, h2⟩
    refine ⟨h1, fun t ht => h2 t fun e => ht ?_⟩
    exact List.mem_filterMap.2 ⟨o, by simpa using Array.mem_of_getElem? ho, e⟩
  · exact ⟨h, fun _ _ => rfl⟩
theorem aIdx_mono {ops : Array Oper} {K K' : Fr → Hp → Prop} {i : Nat} (hk : ∀ F H, K F H → K' F H) (h : aIdx P ops K i F H) : aIdx P ops K' i F H := by
  unfold aIdx at h ⊢
  split at h
  · exact aGuard_mono hk h
  · exact hk _ _ h
theorem aAny_mono {ops : Array Oper} {K K' : Fr → Hp → Prop} (hk : ∀ F H, K F H → K' F H) : ∀ (m : Nat) (S : Array Bool) (F : Fr) (H : Hp), aAny P ops K m S F H → aAny P ops K' m S F H
  | 0, S, F, H, h => ⟨h.1, hk _ _ h.2⟩
  | m + 1, S, F, H, h => ⟨fun e => hk _ _ (h.1 e), fun i hi => aIdx_mono (fun F H => aAny_mono hk m _ F H) (h.2 i hi)⟩
theorem aAny_frame {ops : Array Oper} {K : Fr → Hp → Prop} : ∀ (m : Nat) (S : Array Bool) (F : Fr) (H : Hp), aAny P ops K m S F H → aAny P ops (fun F' H' => K F' H' ∧ ∀ t, t ∉ asgOps ops.toList → F' t = F t) m S F H
  | 0, S, F, H, h => ⟨h.1, h.2, fun _ _ => rfl⟩
  | m + 1, S, F, H, h => ⟨fun e => ⟨h.1 e, fun _ _ => rfl⟩, fun i hi => by
    refine aIdx_mono ?_ (aIdx_frame (h.2 i hi))
    rintro F1 H1 ⟨h1, h2⟩
    refine aAny_mono ?_ m _ F1 H1 (aAny_frame m _ F1 H1 h1)
    rintro F2 H2 ⟨h3, h4⟩
    exact ⟨h3, fun t ht => (h4 t ht).trans (h2 t ht)⟩⟩
theorem CQ_mono {Q Q' : AExit → Fr → Hp → Prop} (hk : ∀ e F H, Q e F H → Q' e F H) {e : Exit} {a : Act} {w : World} (h : CQ B w0 ι0 n N Q e a w) : CQ B w0 ι0 n N Q' e a w := by
  cases e <;> first | exact h.elim | (obtain ⟨ι, F, H, h1, h2, h3, h4, h5⟩ := h; exact ⟨ι, F, H, h1, h2, h3, h4, hk _ _ _ h5⟩)
theorem SWp.mono {c : Code} {Q Q' : AExit → Fr → Hp → Prop} (h : SWp P n N L c Q F H) (hk : ∀ e F H, Q e F H → Q' e F H) : SWp P n N L c Q' F H :=
  fun B w0 ι0 ι a w hA hn hs hF => wp_mono (h B w0 ι0 ι a w hA hn hs hF) fun _ _ _ h => CQ_mono (fun _ _ _ h => ⟨hk _ _ _ h.1, h.2⟩) h
theorem awp_mono : ∀ {C : Code} {Q Q' : AExit → Fr → Hp → Prop} {F : Fr} {H : Hp}, (∀ e F H, Q e F H → Q' e F H) → AWp P n N L C Q F H → AWp P n N L C Q' F H
  | .skip, _, _, _, _, hq, h => hq _ _ _ h
  | .label _, _, _, _, _, hq, h => hq _ _ _ h
  | .seq x y, _, _, _, _, hq, h => by
    refine awp_mono (C := x) ?_ h
    intro e F H he
    cases e with
    | normal => exact awp_mono (C := y) hq he
    | _ => exact hq _ _ _ he
  | .cond c x y, _, _, F, _, hq, h => by
    unfold AWp at h ⊢
    split at h
    · exact ⟨fun e => awp_mono (C := x) hq (h.1 e), fun e => awp_mono (C := y) hq (h.2 e)⟩
    · exact h.elim
  | .block id c, _, _, _, _, hq, h => by
    refine awp_mono (C := c) ?_ h
    intro e F H he
    cases e with
    | exit i =>
      dsimp only at he ⊢
      by_cases hi : i = id
      · rw [if_pos hi] at he ⊢; exact hq _ _ _ he
      · rw [if_neg hi] at he ⊢; exact hq _ _ _ he
    | _ => exact hq _ _ _ he
  | .exit _, _, _, _, _, hq, h => hq _ _ _ h
  | .ret, _, _, _, _, hq, h => hq _ _ _ h
  | .loop c, _, _, _, _, hq, h => SWp.mono h hq
  | .region _ ops false, _, _, _, _, hq, h => aOps_mono (fun F H => hq _ F H) _ _ _ h
  | .region _ ops true, _, _, _, _, hq, h => ⟨h.1, aAny_mono (fun F H => hq _ F H) _ _ _ _ h.2⟩
theorem awp_frame : ∀ {C : Code} {Q : AExit → Fr → Hp → Prop} {F : Fr} {H : Hp}, AWp P n N L C Q F H → AWp P n N L C (QF L C F Q) F H
  | .skip, _, _, _, h => ⟨h, fun _ _ _ => rfl⟩
  | .label _, _, _, _, h => ⟨h, fun _ _ _ => rfl⟩
  | .seq x y, Q, F, _, h => by
    refine awp_mono (C := x) ?_ (awp_frame (C := x) h)
    rintro e F1 H1 ⟨he, hf⟩
    cases e with
    | normal =>
      refine awp_mono (C := y) ?_ (awp_frame (C := y) he)
      rintro e F2 H2 ⟨he2, hf2⟩
      refine ⟨he2, fun t hL ht => ?_⟩
      simp only [asg, List.mem_append, not_or] at ht
      exact (hf2 t hL ht.2).trans (hf t hL ht.1)
    | _ => exact ⟨he, fun t hL ht => hf t hL (by simp only [asg, List.mem_append, not_or] at ht; exact ht.1)⟩
  | .cond c x y, Q, F, _, h => by
    unfold AWp at h ⊢
    split at h
    · exact ⟨fun e => awp_mono (C := x) (fun _ _ _ hh => ⟨hh.1, fun t hL ht => hh.2 t hL (by simp only [asg, List.mem_append, not_or] at ht; exact ht.1)⟩) (awp_frame (C := x) (h.1 e)),
        fun e => awp_mono (C := y) (fun _ _ _ hh => ⟨hh.1, fun t hL ht => hh.2 t hL (by simp only [asg, List.mem_append, not_or] at ht; exact ht.2)⟩) (awp_frame (C := y) (h.2 e))⟩
    · exact h.elim
  | .block id c, Q, F, _, h => by
    refine awp_mono (C := c) ?_ (awp_frame (C := c) h)
    rintro e F1 H1 ⟨he, hf⟩
    cases e with
    | exit i =>
      dsimp only at he ⊢
      by_cases hi : i = id
      · rw [if_pos hi] at he ⊢; exact ⟨he, hf⟩
      · rw [if_neg hi] at he ⊢; exact ⟨he, hf⟩
    | _ => exact ⟨he, hf⟩
  | .exit _, _, _, _, h => ⟨h, fun _ _ _ => rfl⟩
  | .ret, _, _, _, h => ⟨h, fun _ _ _ => rfl⟩
  | .loop c, Q, F, _, h => by
    intro B w0 ι0 ι a w hA hn hs hF
    exact wp_mono (h B w0 ι0 ι a w hA hn hs hF) fun _ _ _ h => CQ_mono (fun _ _ _ h => ⟨⟨h.1, h.2⟩, h.2⟩) h
  | .region _ ops false, _, _, _, h => aOps_mono (fun _ _ h => ⟨h.1, fun t _ ht => h.2 t ht⟩) _ _ _ (aOps_frame _ _ _ h)
  | .region _ ops true, _, _, _, h => ⟨h.1, aAny_mono (fun _ _ h => ⟨h.1, fun t _ ht => h.2 t ht⟩) _ _ _ _ (aAny_frame _ _ _ _ h.2)⟩
/-- WHAT IS SAID OF CODE HOLDS. -/
theorem awp_sound : ∀ (c : Code) (Q : AExit → Fr → Hp → Prop) {a : Act} {w : World} {ι : En} {F : Fr} {H : Hp}, codeOk N c = true → Agree n ι0 ι → n ≤ H.length → Sim B w0 ι H w → FOk N ι H.length F a → AWp P n N L c Q F H → c.wp P (CQ B w0 ι0 n N Q) a w := by
  intro c
  induction c with
  | skip => intro Q a w ι F H _ hA hn hs hF h; exact wp_skip ⟨ι, F, H, hA, hn, hs, hF, h⟩
  | label l => intro Q a w ι F H _ hA hn hs hF h; exact wp_label ⟨ι, F, H, hA, hn, hs, hF, h⟩
  | ret => intro Q a w ι F H _ hA hn hs hF h; exact wp_ret ⟨ι, F, H, hA, hn, hs, hF, h⟩
  | exit id => intro Q a w ι F H _ hA hn hs hF h; exact wp_exit ⟨ι, F, H, hA, hn, hs, hF, h⟩
  | seq x y ihx ihy =>
    intro Q a w ι F H hc hA hn hs hF h
    simp only [codeOk, Bool.and_eq_true] at hc
    refine wp_seq (wp_mono (ihx _ hc.1 hA hn hs hF h) ?_)
    intro e a' w' he
    cases e with
    | normal => obtain ⟨ι', F', H', h1, h2, h3, h4, h5⟩ := he; exact ihy Q hc.2 h1 h2 h3 h4 h5
    | _ => exact he
  | cond c x y ihx ihy =>
    intro Q a w ι F H hc hA hn hs hF h
    simp only [codeOk, Bool.and_eq_true] at hc
    simp only [AWp] at h
    split at h
    · rename_i b hb
      have hv : a.eval c = .bool b := by have := evC_rel hF c; rw [hb] at this; exact this
      exact wp_cond_split hv (fun e => ihx Q hc.1 hA hn hs hF (h.1 e)) (fun e => ihy Q hc.2 hA hn hs hF (h.2 e))
    · exact h.elim
  | block id c ih =>
    intro Q a w ι F H hc hA hn hs hF h
    refine wp_block (wp_mono (ih _ hc hA hn hs hF h) ?_)
    intro e a' w' he
    cases e with
    | exit id' =>
      obtain ⟨ι', F', H', h1, h2, h3, h4, h5⟩ := he
      show if id' = id then _ else _
      by_cases hid : id' = id
      · rw [if_pos hid]; exact ⟨ι', F', H', h1, h2, h3, h4, by simpa [hid] using h5⟩
      · rw [if_neg hid]; exact ⟨ι', F', H', h1, h2, h3, h4, by simpa [hid] using h5⟩
    | _ => exact he
  | loop c ih =>
    intro Q a w ι F H hc hA hn hs hF h
    exact wp_mono (h B w0 ι0 ι a w hA hn hs hF) fun _ _ _ h => CQ_mono (fun _ _ _ h => h.1) h
  | region id ops draw =>
    intro Q a w ι F H hc hA hn hs hF h
    have hd := opsOk_spec hc
    cases draw with
    | false => exact wp_region_list (aOps_sound ops.toList (fun o ho => hd o (by simpa using ho)) hA hn hs hF h)
    | true => exact wp_region_any h.1 (aAny_sound hd _ _ hA hn (hs.heap (w' := { w with drawn := w.drawn + 1 }) rfl rfl rfl rfl) hF h.2)
  | _ => intro Q a w ι F H hc hA hn hs hF h; exact h.elim
theorem SWp.of {c : Code} {Q : AExit → Fr → Hp → Prop} (hc : codeOk N c = true) (h : AWp P n N L c Q F H) : SWp P n N L c Q F H :=
  fun B w0 ι0 ι a w hA hn hs hF => awp_sound c _ hc hA hn hs hF (awp_frame h)
/-- a statement behind another -/
theorem SWp.seq {x y : Code} {Q : AExit → Fr → Hp → Prop} (h : SWp P n N L x (fun e F H => match e with | .normal => SWp P n N L y Q F H | e => Q e F H) F H) : SWp P n N L (.seq x y) Q F H := by
  intro B w0 ι0 ι a w hA hn hs hF
  refine wp_seq (wp_mono (h B w0 ι0 ι a w hA hn hs hF) ?_)
  intro e a' w' he
  cases e with
  | normal =>
    obtain ⟨ι', F', H', h1, h2, h3, h4, h5, h6⟩ := he
    refine wp_mono (h5 B w0 ι0 ι' a' w' h1 h2 h3 h4) fun _ _ _ hh => CQ_mono ?_ hh
    rintro e F2 H2 ⟨h7, h8⟩
    refine ⟨h7, fun t hL ht => ?_⟩
    simp only [asg, List.mem_append, not_or] at ht
    exact (h8 t hL ht.2).trans (h6 t hL ht.1)
  | exit id =>
    obtain ⟨ι', F', H', h1, h2, h3, h4, h5, h6⟩ := he
    exact ⟨ι', F', H', h1, h2, h3, h4, h5, fun t hL ht => h6 t hL (by simp only [asg, List.mem_append, not_or] at ht; exact ht.1)⟩
  | ret =>
    obtain ⟨ι', F', H', h1, h2, h3, h4, h5, h6⟩ := he
    exact ⟨ι', F', H', h1, h2, h3, h4, h5, fun t hL ht => h6 t hL (by simp only [asg, List.mem_append, not_or] at ht; exact ht.1)⟩
  | _ => exact he
theorem SWp.block {id : Nat} {c : Code} {Q : AExit → Fr → Hp → Prop} (h : SWp P n N L c (fun e F H => match e with | .exit id' => (if id' = id then Q .normal F H else Q (.exit id') F H) | e => Q e F H) F H) : SWp P n N L (.block id c) Q F H := by
  intro B w0 ι0 ι a w hA hn hs hF
  refine wp_block (wp_mono (h B w0 ι0 ι a w hA hn hs hF) ?_)
  intro e a' w' he
  cases e with
  | exit id' =>
    obtain ⟨ι', F', H', h1, h2, h3, h4, h5, h6⟩ := he
    show if id' = id then _ else _
    by_cases hid : id' = id
    · rw [if_pos hid]; exact ⟨ι', F', H', h1, h2, h3, h4, by simpa [hid] using h5, h6⟩
    · rw [if_neg hid]; exact ⟨ι', F', H', h1, h2, h3, h4, by simpa [hid] using h5, h6⟩
  | normal => exact he
  | ret => exact he
  | _ => exact he
end
end Go.Proofs.YtkmkkjlfnobciaaGreatDoor
