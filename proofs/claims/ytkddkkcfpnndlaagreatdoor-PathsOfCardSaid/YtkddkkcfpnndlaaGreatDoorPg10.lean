/- A region that draws its order, operation by operation: what each yields, said of its value and the world; no order is gone through. -/
import Derived.Test.YtkddkkcfpnndlaaGreatDoorPg00
import Derived.Test.YtkddkkcfpnndlaaGreatDoorPg09
import Derived.BigQuiet
import Derived.Orders
namespace Go.Proofs.YtkddkkcfpnndlaaGreatDoor
open Go.RowKit

theorem Ints.step {w w' : World} {a : Option Addr} {n c : Nat} {xs : List Int} (h : Ints w a n c xs) (hb : Below w.heap.size w w') : Ints w' a n c xs := h.below hb (Nat.le_refl _)
theorem cell_step {w w' : World} {b o : Nat} {v : Value} (hb : Below w.heap.size w w') (h : w.cell? ⟨b, o, none⟩ = some v) : w'.cell? ⟨b, o, none⟩ = some v := by
  rw [hb.cell (p := ⟨b, o, none⟩) (block_lt_of_cell h)]; exact h

end Go.Proofs.YtkddkkcfpnndlaaGreatDoor
