/- Holds that are drawn. No condition. -/
import Derived.Test.YtflklkijfkmeiaaGreatDoorHVGD
import Derived.Test.YtflklkijfkmeiaaGreatDoorHVGA
import Derived.Test.YtflklkijfkmeiaaGreatDoorHVGC
namespace Go.Proofs.YtflklkijfkmeiaaGreatDoor
open Go Go.RowKit
set_option maxRecDepth 100000
set_option linter.all false
set_option maxHeartbeats 1000000
variable {H : Hp} {K : AV → Hp → Prop}
def encT (s : ByteArray) : List AC := [.str s]
attribute [go_sem] encT
theorem some_a (s : Nat) (zs : List Int) (k : Int) (l : List ByteArray) (hs : Str H s zs k) (h0 : 0 < l.length) (h1 : l.length ≤ 1000)
    (hk : ∀ r : ByteArray, r ∈ l → K (.c (.str r)) (H.set s (strO zs (k + 1)))) : ACalls Tryz.prog 45 [.c (.ptr (some (s, 0, 0))), .c (.lst 1 (l.map encT))] H K := by
  refine acalls Tryz.func45 rfl (by kernel_rfl) (by simp (disch := first | omega | (simp only [go_sem]; first | done | omega)) only [go_sem]) (fun hH => ?_)
  simp (disch := first | omega | (simp only [go_sem]; first | done | omega)) only [go_sem]
  repeat' (first | ((first | refine acond_d ?_ ?_ | refine acond_b ?_ ?_ | refine ag_d ?_ ?_ | refine ag_n ?_ ?_ | refine ag_bt ?_ ?_ | refine ag_bf ?_ ?_) <;> intro c <;> try simp (disch := first | omega | (simp only [go_sem]; first | done | omega)) only [go_sem, c]) | ((first | refine w_draw (by kernel_rfl) (by decide +kernel) ?_ | refine next_a s _ _ _ hs (by omega) (by omega) (fun r _ _ => ?_)) <;> try simp (disch := first | omega | (simp only [go_sem]; first | done | omega)) only [go_sem]))
  exact Ret.same (by simp) (hk _ (List.getElem_mem _))
theorem some_lit (s : Nat) (zs : List Int) (k : Int) (l : List ByteArray) {i ty n : Nat} {els : List (List AC)} {own : Bool} (hi : H[i]? = some (.row ty 1 els own)) (he : els = l.map encT) (hn : n = l.length) (hs : Str H s zs k) (hne : i ≠ s) (h0 : 0 < l.length) (h1 : l.length ≤ 1000)
    (hk : ∀ r : ByteArray, r ∈ l → K (.c (.str r)) ((H.set i .dead).set s (strO zs (k + 1)))) : ACalls Tryz.prog 45 [.c (.ptr (some (s, 0, 0))), .c (.sl (some (i, 0)) n)] H K := by
  subst he hn
  refine ACalls.lit hi (by simp [pureL, encT, AC.pure]) (args' := [.c (.ptr (some (s, 0, 0))), .c (.lst 1 (l.map encT))]) ?_ (some_a s zs k l ⟨hs.1, hs.2.1, hs.2.2.1, ?_⟩ h0 h1 hk)
  · simp [AV.frz1, AC.frz]
    rw [List.take_of_length_le (by simp)]
  · rw [List.getElem?_set_ne hne]; exact hs.2.2.2
end Go.Proofs.YtflklkijfkmeiaaGreatDoor
