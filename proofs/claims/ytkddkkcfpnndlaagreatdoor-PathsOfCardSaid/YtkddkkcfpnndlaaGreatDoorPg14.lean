/- Walks: firsts.each. -/
import Derived.Test.YtkddkkcfpnndlaaGreatDoorPg12
import Derived.Test.YtkddkkcfpnndlaaGreatDoorPg13
namespace Go.Proofs.YtkddkkcfpnndlaaGreatDoor
open Go.RowKit
/-- has an order each of so many, once? -/
def isOrd (order : List Int) (m : Nat) : Bool := order.isPerm (upTo m)

end Go.Proofs.YtkddkkcfpnndlaaGreatDoor
