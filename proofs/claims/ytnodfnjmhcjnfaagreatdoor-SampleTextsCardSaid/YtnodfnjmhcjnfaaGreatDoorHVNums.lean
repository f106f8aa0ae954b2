/- Numbers as bytes: plain definitions and lemmas, no program in sight. -/
import Derived.Test.YtnodfnjmhcjnfaaGreatDoorHVGA
namespace Go.Proofs.YtnodfnjmhcjnfaaGreatDoor
open Go Go.RowKit
def most : Int := 1000000000000
end Go.Proofs.YtnodfnjmhcjnfaaGreatDoor
