/- A region that draws its order, operation by operation: what each yields, said of its value and the world; no order is gone through. -/
import Derived.Test.YtkddkkcfpnndlaaGreatDoorFf00
import Derived.Test.YtkddkkcfpnndlaaGreatDoorFf06
import Derived.BigQuiet
import Derived.Orders
namespace Go.Proofs.YtkddkkcfpnndlaaGreatDoor
open Go.RowKit

theorem Ints.step {w w' : World} {a : Option Addr} {n c : Nat} {xs : List Int} (h : Ints w a n c xs) (hb : Below w.heap.size w w') : Ints w' a n c xs := h.below hb (Nat.le_refl _)
end Go.Proofs.YtkddkkcfpnndlaaGreatDoor
