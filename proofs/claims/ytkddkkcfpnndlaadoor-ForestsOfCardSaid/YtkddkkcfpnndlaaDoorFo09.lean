/- Walks: firsts.each. -/
import Derived.Test.YtkddkkcfpnndlaaDoorFo08
import Derived.Test.YtkddkkcfpnndlaaDoorFo05
import Derived.RangeFuncNested
import Derived.RangeFuncBound
import Derived.RangeFuncCalls
import Derived.RangeFuncLeaves
import Derived.RangeFuncBox
import Derived.Shelf.Abstract
import Derived.Shelf.RegionOpen
import Derived.Maps.AppendAt
import Derived.OwnWalkIn
import Derived.TacticsInMore
import Derived.LoopNIn
import Derived.LoopIn
import Derived.Sort.OwnSortedInts
namespace Go.Proofs.YtkddkkcfpnndlaaDoor
open Go.RowKit
/-- has an order each of so many, once? -/
def isOrd (order : List Int) (m : Nat) : Bool := order.isPerm (upTo m)

end Go.Proofs.YtkddkkcfpnndlaaDoor
