/- Walks: weights.each. -/
import Derived.Test.YtkddkkcfpnndlaaDoorFo03
import Derived.Test.YtkddkkcfpnndlaaDoorFo05
namespace Go.Proofs.YtkddkkcfpnndlaaDoor
open Go.RowKit

def upTo (n : Nat) : List Int := (List.range n).map fun (k : Nat) => (k : Int)
end Go.Proofs.YtkddkkcfpnndlaaDoor
