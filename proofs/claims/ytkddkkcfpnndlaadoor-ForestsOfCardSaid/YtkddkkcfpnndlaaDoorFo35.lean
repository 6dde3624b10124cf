/- Walks: matchings.Most. -/
import Derived.Test.YtkddkkcfpnndlaaDoorFo30
import Derived.Test.YtkddkkcfpnndlaaDoorFo19
import Derived.Test.YtkddkkcfpnndlaaDoorFo34
import Derived.Test.YtkddkkcfpnndlaaDoorFo32
import Derived.Laws.CopyOwn
namespace Go.Proofs.YtkddkkcfpnndlaaDoor
open Go.RowKit

theorem boxed_on {W W' : World} {b : Nat} {t : TypeId} {v : Value} (h : Boxed W b t v) (hb : Below W.heap.size W W') : Boxed W' b t v := by unfold Boxed; rw [hb.block _ h.lt]; exact h
/-- what the goer's boxes hold -/
structure GoAt (W : World) (B2 B3 B6 : Nat) (ga : Option Addr) (gn gc : Nat) (items : Int) (ha : Option Addr) (hn hc : Nat) : Prop where
  b2 : Boxed W B2 23 (.slice ga gn gc)
  b3 : Boxed W B3 3 (.int .i64 items)
  b6 : Boxed W B6 22 (.slice ha hn hc)
theorem GoAt.step {W W' : World} {B2 B3 B6 : Nat} {ga : Option Addr} {gn gc : Nat} {items : Int} {ha : Option Addr} {hn hc : Nat} (h : GoAt W B2 B3 B6 ga gn gc items ha hn hc) (hb : Below W.heap.size W W') : GoAt W' B2 B3 B6 ga gn gc items ha hn hc :=
  ⟨by unfold Boxed; rw [hb.block _ h.b2.lt]; exact h.b2, by unfold Boxed; rw [hb.block _ h.b3.lt]; exact h.b3, by unfold Boxed; rw [hb.block _ h.b6.lt]; exact h.b6⟩

end Go.Proofs.YtkddkkcfpnndlaaDoor
