/- Several texts in one: The coarsest level that answers a query: the document's answer, and what follows. No condition. -/
import Derived.Test.YtflklkijfkmeiaaGreatDoorHVGD
import Derived.Test.YtflklkijfkmeiaaGreatDoorHVGA
import Derived.LoopNIn
import Derived.Test.YtflklkijfkmeiaaGreatDoorHVGC
import Derived.Test.YtflklkijfkmeiaaGreatDoorHVGB
import Derived.Test.YtflklkijfkmeiaaGreatDoorHVBack
import Derived.Shelf.Sort.Plain
import Derived.Test.YtflklkijfkmeiaaGreatDoorHVStr
/- The coarsest level that answers a query: the document's answer. Condition: few holds, numbers as those of levels. -/
namespace Go.Proofs.YtflklkijfkmeiaaGreatDoor
open Go Go.RowKit
set_option maxRecDepth 100000
set_option linter.all false
set_option maxHeartbeats 2000000
variable {H : Hp} {K : AV → Hp → Prop}
theorem WkL.hok {m : Nat} {vs vs' : List AV} {H G : Hp} (h : HOk H → WkL m vs H vs' G) : WkL m vs H vs' G := fun B w0 ι w zs hs => h hs.hok B w0 ι w zs hs
end Go.Proofs.YtflklkijfkmeiaaGreatDoor
/- What a buffer does: no program in sight. No condition. -/
namespace Go.Proofs.YtflklkijfkmeiaaGreatDoor
open Go Go.RowKit
set_option maxRecDepth 100000
set_option linter.all false
structure Pk where
  n : Int
  tag : ByteArray
  s : Smp
structure Hd where
  p : Pk
  sent : Bool
/-! ### what stays -/
def sq (l : List Hd) : List Int := l.map (fun x => x.p.n)
/-! ### rows -/
end Go.Proofs.YtflklkijfkmeiaaGreatDoor
/- Held packets deleted in place. No condition. -/
namespace Go.Proofs.YtflklkijfkmeiaaGreatDoor
open Go Go.RowKit
set_option maxRecDepth 100000
set_option linter.all false
set_option maxHeartbeats 1000000
variable {H : Hp} {K : AV → Hp → Prop}
def encPk (x : Pk) : List AC := [.int .i64 x.n, .str x.tag, .int .i64 x.s.t, .int .i64 x.s.v, .int .i64 x.s.q]
attribute [go_sem] encPk
end Go.Proofs.YtflklkijfkmeiaaGreatDoor
/- Packets acked, and packets sent. No condition. -/
namespace Go.Proofs.YtflklkijfkmeiaaGreatDoor
open Go Go.RowKit
set_option maxRecDepth 100000
set_option linter.all false
set_option maxHeartbeats 2000000
variable {H : Hp} {K : AV → Hp → Prop}
end Go.Proofs.YtflklkijfkmeiaaGreatDoor
/- Numbers as rows. Condition: there are not too many, and they are small. -/
namespace Go.Proofs.YtflklkijfkmeiaaGreatDoor
open Go Go.RowKit
set_option maxRecDepth 100000
set_option linter.all false
set_option maxHeartbeats 1000000
variable {H : Hp} {K : AV → Hp → Prop}
theorem aIf_valS {c : Prop} {v v' : AV} {J : AV → Hp → Prop} (hc : c) (hv : v = v') (h : J v' H) : aIf c v H J := hv ▸ ⟨hc, h⟩
theorem len640_a (hk : K (.c (.int .i64 0)) H) : ACalls Tryz.prog 211 [.c (.int .u64 0)] H K := by
  refine acalls Tryz.func211 rfl (by kernel_rfl) (by simp (disch := first | omega | (simp only [go_sem]; first | done | omega)) only [go_sem]) (fun hH => ?_)
  simp (disch := first | omega | (simp only [go_sem]; first | done | omega)) only [go_sem]
  refine aIf_valS (v' := .c (.int .u8 0)) (by decide +kernel) (congrArg (fun z => AV.c (.int .u8 z)) (by decide +kernel : _ = (0 : Int))) ?_
  simp (disch := first | omega | (simp only [go_sem]; first | done | omega)) only [go_sem]
  exact Ret.same (Nat.le_refl _) hk
theorem len0_a (hk : K (.c (.int .i64 0)) H) : ACalls Tryz.prog 139 [.c (.int .u64 0)] H K := by
  refine acalls Tryz.func139 rfl (by kernel_rfl) (by simp (disch := first | omega | (simp only [go_sem]; first | done | omega)) only [go_sem]) (fun hH => ?_)
  simp (disch := first | omega | (simp only [go_sem]; first | done | omega)) only [go_sem]
  refine len640_a ?_
  simp (disch := first | omega | (simp only [go_sem]; first | done | omega)) only [go_sem]
  exact Ret.same (Nat.le_refl _) hk
end Go.Proofs.YtflklkijfkmeiaaGreatDoor
/- Package buffer's functions. Condition: the list is not huge. -/
namespace Go.Proofs.YtflklkijfkmeiaaGreatDoor
open Go Go.RowKit
set_option maxRecDepth 100000
set_option linter.all false
set_option maxHeartbeats 2000000
variable {H : Hp} {K : AV → Hp → Prop}
theorem ACalls.hok {P : Program} {f : FuncId} {args : List AV} {H : Hp} {K : AV → Hp → Prop} (h : ACalls P f args H (fun v G => HOk G → K v G)) : ACalls P f args H K :=
  fun B w0 ι w vs hs hr ho => (h B w0 ι w vs hs hr ho).mono fun _ _ ⟨ι', v, av, H', h1, h2, h3, h4, h5, h6, h7⟩ => ⟨ι', v, av, H', h1, h2, h3, h4, h5, h6, h7 h4.scope⟩
end Go.Proofs.YtflklkijfkmeiaaGreatDoor
