/- Walks: weights.each. -/
import Derived.Test.YtkddkkcfpnndlaaGreatDoorPg03
import Derived.Test.YtkddkkcfpnndlaaGreatDoorPg04
namespace Go.Proofs.YtkddkkcfpnndlaaGreatDoor
open Go.RowKit

def upTo (n : Nat) : List Int := (List.range n).map fun (k : Nat) => (k : Int)
end Go.Proofs.YtkddkkcfpnndlaaGreatDoor
