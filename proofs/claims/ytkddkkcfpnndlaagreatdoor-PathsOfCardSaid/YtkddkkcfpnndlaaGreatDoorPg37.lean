/- Walks: matchings.Most. -/
import Derived.Test.YtkddkkcfpnndlaaGreatDoorPg19
import Derived.Test.YtkddkkcfpnndlaaGreatDoorPg10
import Derived.Test.YtkddkkcfpnndlaaGreatDoorPg20
import Derived.Test.YtkddkkcfpnndlaaGreatDoorPg35
import Derived.Laws.CopyOwn
namespace Go.Proofs.YtkddkkcfpnndlaaGreatDoor
open Go.RowKit

theorem boxed_on {W W' : World} {b : Nat} {t : TypeId} {v : Value} (h : Boxed W b t v) (hb : Below W.heap.size W W') : Boxed W' b t v := by unfold Boxed; rw [hb.block _ h.lt]; exact h
theorem Ints.clip {W : World} {a : Option Addr} {n c : Nat} {xs : List Int} (h : Ints W a n c xs) : Ints W a n n xs := ⟨h.len, Nat.le_refl _, h.big, h.addr, h.cell, h.bd, fun e => ⟨(h.nil e).1, (h.nil e).1⟩⟩

/-- what the goer's boxes hold -/
structure GoAt (W : World) (B2 B3 B6 : Nat) (ga : Option Addr) (gn gc : Nat) (items : Int) (ha : Option Addr) (hn hc : Nat) : Prop where
  b2 : Boxed W B2 22 (.slice ga gn gc)
  b3 : Boxed W B3 3 (.int .i64 items)
  b6 : Boxed W B6 25 (.slice ha hn hc)
theorem GoAt.step {W W' : World} {B2 B3 B6 : Nat} {ga : Option Addr} {gn gc : Nat} {items : Int} {ha : Option Addr} {hn hc : Nat} (h : GoAt W B2 B3 B6 ga gn gc items ha hn hc) (hb : Below W.heap.size W W') : GoAt W' B2 B3 B6 ga gn gc items ha hn hc :=
  ⟨by unfold Boxed; rw [hb.block _ h.b2.lt]; exact h.b2, by unfold Boxed; rw [hb.block _ h.b3.lt]; exact h.b3, by unfold Boxed; rw [hb.block _ h.b6.lt]; exact h.b6⟩

end Go.Proofs.YtkddkkcfpnndlaaGreatDoor
