/- A law that the kit lacks: '==' between two arrays of integers that are variables. -/
import Derived.Test.YtkddkkcfpnndlaaGreatDoorPg00
import Derived.Laws.StructEq
import Derived.Deep.WholeRow
namespace Go.Proofs.YtkddkkcfpnndlaaGreatDoor
open Go.RowKit
/-- n numbers, by a function of the place -/
def tabN (n : Nat) (f : Nat → Int) : List Int := (List.range n).map f
theorem tabN_length (n : Nat) (f : Nat → Int) : (tabN n f).length = n := by simp [tabN]
theorem tabN_get {n : Nat} (f : Nat → Int) {k : Nat} (h : k < n) : (tabN n f)[k]? = some (f k) := by simp [tabN, h]
section
variable {P : Program} (w : World)
end
end Go.Proofs.YtkddkkcfpnndlaaGreatDoor
