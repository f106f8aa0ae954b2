/- Several texts in one: The document's parser: rows of operands, and what follows. No condition. -/
import Derived.Test.YtlnfiflbpmicgaaGreatDoorHVScan
import Derived.Test.YtlnfiflbpmicgaaGreatDoorHVGA
import Derived.Test.YtlnfiflbpmicgaaGreatDoorHVTxtS
import Derived.Test.YtlnfiflbpmicgaaGreatDoorHCoreFrz
import Derived.Test.YtlnfiflbpmicgaaGreatDoorHVPrsE
/- The document's parser: rows of operands. Condition: the text is not long. -/
namespace Go.Proofs.YtlnfiflbpmicgaaGreatDoor
open Go Go.RowKit
set_option maxRecDepth 100000
set_option linter.all false
set_option maxHeartbeats 2000000
variable {H : Hp} {K : AV → Hp → Prop}
def okT (cs : List AC) : Prop := cs.length = 5 ∧ cs.all AC.pure = true
theorem okT.cells {cs : List AC} (h : okT cs) : ∃ a b c d e, cs = [a, b, c, d, e] ∧ a.pure = true ∧ b.pure = true ∧ c.pure = true ∧ d.pure = true ∧ e.pure = true := by
  obtain ⟨h1, h2⟩ := h
  match cs, h1 with
  | [a, b, c, d, e], _ =>
    simp only [List.all_cons, List.all_nil, Bool.and_true, Bool.and_eq_true] at h2
    exact ⟨a, b, c, d, e, rfl, h2.1, h2.2.1, h2.2.2.1, h2.2.2.2.1, h2.2.2.2.2⟩
theorem okT.ok {cs : List AC} (h : okT cs) (n : Nat) : (AV.agg cs).ok n := fun x hx => AC.ok_of_pure (List.all_eq_true.1 h.2 x hx) n
theorem okT.row {cs : List AC} (h : okT cs) (n : Nat) (ty : Nat) (own : Bool) : (AObj.row ty 5 [cs] own).okN n := by
  intro e he
  rw [List.mem_singleton] at he
  subst he
  exact ⟨h.1, fun x hx => AC.ok_of_pure (List.all_eq_true.1 h.2 x hx) n⟩
end Go.Proofs.YtlnfiflbpmicgaaGreatDoor
/- The document's parser: comparisons. Condition: the text is not long. -/
namespace Go.Proofs.YtlnfiflbpmicgaaGreatDoor
open Go Go.RowKit
set_option maxRecDepth 100000
set_option linter.all false
set_option maxHeartbeats 2000000
variable {H : Hp} {K : AV → Hp → Prop}
end Go.Proofs.YtlnfiflbpmicgaaGreatDoor
