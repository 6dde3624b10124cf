/- Walks: weights.best. -/
import Derived.Test.YtkddkkcfpnndlaaGreatDoorPg11
import Derived.Test.YtkddkkcfpnndlaaGreatDoorPg02
import Derived.Test.YtkddkkcfpnndlaaGreatDoorPg09
import Derived.Test.YtkddkkcfpnndlaaGreatDoorPg00
import Derived.Deep.RegionHeld3
import Derived.Deep.RegionLaw
namespace Go.Proofs.YtkddkkcfpnndlaaGreatDoor
open Go.RowKit Sale

/-- what a bidder gains by an item -/
def gi (gains : List (List Int)) (i k : Nat) : Int := ((gains[i]?.getD [])[k]?).getD (-1)
theorem gi_at {gains : List (List Int)} {i k : Nat} {l : List Int} {x : Int} (h : gains[i]? = some l) (hx : l[k]? = some x) : gi gains i k = x := by simp [gi, h, hx]

def tab (f : Nat → Int) : List Int := (List.range 256).map f
end Go.Proofs.YtkddkkcfpnndlaaGreatDoor
