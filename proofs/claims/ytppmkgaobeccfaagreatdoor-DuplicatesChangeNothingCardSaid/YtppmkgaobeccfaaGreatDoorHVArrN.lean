/- The numbers of a node that arrived, sorted: the document's answer. Condition: at most a million. -/
import Derived.Test.YtppmkgaobeccfaaGreatDoorHVArrL
namespace Go.Proofs.YtppmkgaobeccfaaGreatDoor
open Go Go.RowKit
set_option maxRecDepth 100000
set_option linter.all false
set_option maxHeartbeats 1000000
variable {H : Hp} {K : AV → Hp → Prop}
def nsF (l : List Arr) (n : ByteArray) : List Int := (l.filter fun x => decide (x.nd = n)).map fun x => x.p.n
def arvF (l : List Arr) (n : ByteArray) : List Int := cplF (srtI (nsF l n))
end Go.Proofs.YtppmkgaobeccfaaGreatDoor
