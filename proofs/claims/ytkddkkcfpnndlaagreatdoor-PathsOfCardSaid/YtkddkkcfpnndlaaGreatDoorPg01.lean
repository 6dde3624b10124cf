/- Walks: package vectors. -/
import Derived.Test.YtkddkkcfpnndlaaGreatDoorPg00
import Derived.Test.YtkddkkcfpnndlaaGreatDoorRows
namespace Go.Proofs.YtkddkkcfpnndlaaGreatDoor
open Go.RowKit

def within (most : Int) (xs : List Int) : Bool := xs.all fun x => decide (0 ≤ x ∧ x ≤ most)
/-- a bid may be, for so many items -/
def vcheck (xs : List Int) (items : Int) : Bool := decide (1 ≤ items ∧ items ≤ 8) && decide ((xs.length : Int) = items) && within 1000000 xs

end Go.Proofs.YtkddkkcfpnndlaaGreatDoor
