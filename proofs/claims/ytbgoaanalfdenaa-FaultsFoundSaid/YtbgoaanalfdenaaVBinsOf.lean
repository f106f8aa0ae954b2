/- The document's bins of a series. Condition: the times rise, numbers are small. -/
import Derived.Test.YtbgoaanalfdenaaVBinsOfM
namespace Go.Proofs.Ytbgoaanalfdenaa
open Go Go.RowKit
set_option maxRecDepth 100000
set_option linter.all false
set_option maxHeartbeats 1000000
variable {H : Hp} {K : AV → Hp → Prop}
theorem pureL_encI (l : List Int) : pureL (l.map encI) = true := by simp [pureL, encI, AC.pure]
def Smp.small (x : Smp) : Prop := 0 ≤ x.t ∧ x.t ≤ 345686399999 ∧ -1000000 ≤ x.v ∧ x.v ≤ 1000000
theorem sum_bd : ∀ (g : List Int), (∀ v ∈ g, -1000000 ≤ v ∧ v ≤ 1000000) → -1000000 * (g.length : Int) ≤ g.sum ∧ g.sum ≤ 1000000 * (g.length : Int)
  | [], _ => by simp
  | x :: t, h => by
    have h1 := h x (by simp)
    have h2 := sum_bd t (fun v hv => h v (by simp [hv]))
    simp only [List.sum_cons, List.length_cons]
    omega
end Go.Proofs.Ytbgoaanalfdenaa
