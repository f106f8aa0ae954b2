/- A loop of few rounds, walked round by round. No condition. -/
import Derived.Test.YtbgoaanalfdenaaVStream
import Derived.LoopN
namespace Go.Proofs.Ytbgoaanalfdenaa
open Go Go.RowKit
set_option maxRecDepth 100000
set_option linter.all false
section
variable {P : Program} {n N : Nat} {L : List Tmp} {F : Fr} {H : Hp}
/-- what is asked behind a round, where at most so many follow -/
def QR (P : Program) (n N : Nat) (L : List Tmp) (c : Code) (Q : AExit → Fr → Hp → Prop) : Nat → AExit → Fr → Hp → Prop
  | 0 => fun e F H => match e with | .normal => False | e => Q e F H
  | k + 1 => fun e F H => match e with | .normal => AWp P n N L c (QR P n N L c Q k) F H | e => Q e F H
theorem AWp.rounds {c : Code} {Q : AExit → Fr → Hp → Prop} (k : Nat) (hc : codeOk N c = true) (h : AWp P n N L c (QR P n N L c Q k) F H) : AWp P n N L (.loop c) Q F H := by
  intro B w0 ι0 ι a w hA hn hs hF
  have key : ∀ (k : Nat) (F' : Fr) (H' : Hp) (ι' : En) (a' : Act) (w' : World), Agree n ι0 ι' → n ≤ H'.length → Sim B w0 ι' H' w' → FOk N ι' H'.length F' a' → (∀ t ∈ L, t ∉ asg c → F' t = F t) → AWp P n N L c (QR P n N L c Q k) F' H' → Code.rounds P c (CQ B w0 ι0 n N (QF L (.loop c) F Q)) (k + 1) a' w' := by
    intro k
    induction k with
    | zero =>
      intro F' H' ι' a' w' g1 g2 g3 g4 g5 g6
      rw [rounds_succ]
      refine wp_mono (awp_sound c _ hc g1 g2 g3 g4 (awp_frame g6)) ?_
      intro e a2 w2 he
      cases e with
      | normal => obtain ⟨ι2, F2, H2, k1, k2, k3, k4, k5, k6⟩ := he; exact k5.elim
      | exit id => obtain ⟨ι2, F2, H2, k1, k2, k3, k4, k5, k6⟩ := he; exact ⟨ι2, F2, H2, k1, k2, k3, k4, k5, fun t ht hm => (k6 t ht hm).trans (g5 t ht hm)⟩
      | ret => obtain ⟨ι2, F2, H2, k1, k2, k3, k4, k5, k6⟩ := he; exact ⟨ι2, F2, H2, k1, k2, k3, k4, k5, fun t ht hm => (k6 t ht hm).trans (g5 t ht hm)⟩
      | _ => exact he
    | succ k ih =>
      intro F' H' ι' a' w' g1 g2 g3 g4 g5 g6
      rw [rounds_succ]
      refine wp_mono (awp_sound c _ hc g1 g2 g3 g4 (awp_frame g6)) ?_
      intro e a2 w2 he
      cases e with
      | normal => obtain ⟨ι2, F2, H2, k1, k2, k3, k4, k5, k6⟩ := he; exact ih F2 H2 ι2 a2 w2 k1 k2 k3 k4 (fun t ht hm => (k6 t ht hm).trans (g5 t ht hm)) k5
      | exit id => obtain ⟨ι2, F2, H2, k1, k2, k3, k4, k5, k6⟩ := he; exact ⟨ι2, F2, H2, k1, k2, k3, k4, k5, fun t ht hm => (k6 t ht hm).trans (g5 t ht hm)⟩
      | ret => obtain ⟨ι2, F2, H2, k1, k2, k3, k4, k5, k6⟩ := he; exact ⟨ι2, F2, H2, k1, k2, k3, k4, k5, fun t ht hm => (k6 t ht hm).trans (g5 t ht hm)⟩
      | _ => exact he
  exact wp_loop_rounds (k + 1) (key k F H ι a w hA hn hs hF (fun _ _ _ => rfl) h)
@[go_sem ↓] theorem qr_n (c : Code) (Q : AExit → Fr → Hp → Prop) (k : Nat) : QR P n N L c Q (k + 1) .normal F H = AWp P n N L c (QR P n N L c Q k) F H := (rfl)
@[go_sem ↓] theorem qr_e (c : Code) (Q : AExit → Fr → Hp → Prop) (k id : Nat) : QR P n N L c Q k (.exit id) F H = Q (.exit id) F H := by cases k <;> rfl
@[go_sem ↓] theorem qr_r (c : Code) (Q : AExit → Fr → Hp → Prop) (k : Nat) : QR P n N L c Q k .ret F H = Q .ret F H := by cases k <;> rfl
end
end Go.Proofs.Ytbgoaanalfdenaa
