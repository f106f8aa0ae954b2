/- Numbers as bytes: plain definitions and lemmas, no program in sight. -/
import Derived.Test.YtebhpfhichdgaaaGreatDoorHVGA
namespace Go.Proofs.YtebhpfhichdgaaaGreatDoor
open Go Go.RowKit
def most : Int := 1000000000000
end Go.Proofs.YtebhpfhichdgaaaGreatDoor
