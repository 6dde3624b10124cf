/- What First answers: refused, or the first of the best. -/
import Derived.Test.YtkddkkcfpnndlaaGreatDoorPg15
import Derived.Test.YtkddkkcfpnndlaaGreatDoorPg16
namespace Go.Proofs.YtkddkkcfpnndlaaGreatDoor
open Go.RowKit Sale

theorem order_nat {order : List Int} {m : Nat} (h : isOrd order m = true) : ∃ on : List Nat, order = on.map fun k : Nat => (k : Int) := by
  refine ⟨order.map Int.toNat, ?_⟩
  rw [List.map_map]
  have hp : order.Perm (upTo m) := List.isPerm_iff.1 h
  have : ∀ x, x ∈ order → 0 ≤ x := by
    intro x hx
    have := hp.mem_iff.1 hx
    unfold upTo at this
    obtain ⟨j, _, rfl⟩ := List.mem_map.1 this
    omega
  conv => lhs; rw [← List.map_id order]
  refine List.map_congr_left fun x hx => ?_
  have := this x hx
  simp; omega

end Go.Proofs.YtkddkkcfpnndlaaGreatDoor
