/- Walks: halls.Few: of some, how many want nothing but what is in a list. -/
import Derived.Test.YtkddkkcfpnndlaaGreatDoorPg37
import Derived.Test.YtkddkkcfpnndlaaGreatDoorPg35
import Derived.Test.YtkddkkcfpnndlaaGreatDoorPg20
import Derived.Test.YtkddkkcfpnndlaaGreatDoorPg19
import Derived.Test.YtkddkkcfpnndlaaGreatDoorPg10
import Derived.Deep.MidRow
namespace Go.Proofs.YtkddkkcfpnndlaaGreatDoor
open Go.RowKit

/-- what the function value has taken in -/
structure InAt (W : World) (B5 B3 B4 : Nat) (sa : Option Addr) (sn sc : Nat) (ga : Option Addr) (gn gc : Nat) (items : Int) : Prop where
  b5 : Boxed W B5 25 (.slice sa sn sc)
  b3 : Boxed W B3 22 (.slice ga gn gc)
  b4 : Boxed W B4 3 (.int .i64 items)
theorem InAt.step {W W' : World} {B5 B3 B4 : Nat} {sa : Option Addr} {sn sc : Nat} {ga : Option Addr} {gn gc : Nat} {items : Int} (h : InAt W B5 B3 B4 sa sn sc ga gn gc items) (hb : Below W.heap.size W W') : InAt W' B5 B3 B4 sa sn sc ga gn gc items :=
  ⟨boxed_on h.b5 hb, boxed_on h.b3 hb, boxed_on h.b4 hb⟩

end Go.Proofs.YtkddkkcfpnndlaaGreatDoor
