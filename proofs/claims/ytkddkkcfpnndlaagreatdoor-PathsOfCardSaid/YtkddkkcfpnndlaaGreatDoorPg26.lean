/- Walks: markets.Check. -/
import Derived.Test.YtkddkkcfpnndlaaGreatDoorPg03
import Derived.Deep.QuietTactic
namespace Go.Proofs.YtkddkkcfpnndlaaGreatDoor
open Go.RowKit

/-- a market as plain data -/
structure Mkt where
  res : List Int
  bids : List (List Int)
  ord : List Int

/-- a bid that may not be -/
def badBid (items : Nat) (b : List Int) : Bool := !b.isEmpty && !vcheck b items
/-- may a market be? -/
def mcheck (m : Mkt) : Bool := vcheck m.res m.res.length && decide (1 ≤ m.bids.length) && decide (m.bids.length ≤ 8) && orderOk m.ord m.bids.length && !(m.bids.any (badBid m.res.length))

end Go.Proofs.YtkddkkcfpnndlaaGreatDoor
