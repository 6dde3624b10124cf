/- Walks: demands: may prices be; what one gains by each item at prices. -/
import Derived.Test.YtkddkkcfpnndlaaGreatDoorPg26
import Derived.Test.YtkddkkcfpnndlaaGreatDoorPg35
namespace Go.Proofs.YtkddkkcfpnndlaaGreatDoor
open Go.RowKit Go.Shelf

attribute [local go_sem] Oper.semAt_some

/-- an item, and what is gained by it -/
structure Gn where
  k : Nat
  d : Int
def gainsTo (bid prices : List Int) (n : Nat) : List Gn := (List.range n).map fun k => ⟨k, bid.getD k 0 - prices.getD k 0⟩
end Go.Proofs.YtkddkkcfpnndlaaGreatDoor
