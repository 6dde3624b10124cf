/- Walks: halls.Few: of some, how many want nothing but what is in a list. -/
import Derived.Test.YtkddkkcfpnndlaaDoorFo35
import Derived.Test.YtkddkkcfpnndlaaDoorFo32
import Derived.Test.YtkddkkcfpnndlaaDoorFo34
import Derived.Test.YtkddkkcfpnndlaaDoorFo30
import Derived.Test.YtkddkkcfpnndlaaDoorFo19
import Derived.Test.YtkddkkcfpnndlaaDoorFo07
import Derived.Deep.MidRow
namespace Go.Proofs.YtkddkkcfpnndlaaDoor
open Go.RowKit

/-- what the function value has taken in -/
structure InAt (W : World) (B5 B3 B4 : Nat) (sa : Option Addr) (sn sc : Nat) (ga : Option Addr) (gn gc : Nat) (items : Int) : Prop where
  b5 : Boxed W B5 22 (.slice sa sn sc)
  b3 : Boxed W B3 23 (.slice ga gn gc)
  b4 : Boxed W B4 3 (.int .i64 items)
theorem InAt.step {W W' : World} {B5 B3 B4 : Nat} {sa : Option Addr} {sn sc : Nat} {ga : Option Addr} {gn gc : Nat} {items : Int} (h : InAt W B5 B3 B4 sa sn sc ga gn gc items) (hb : Below W.heap.size W W') : InAt W' B5 B3 B4 sa sn sc ga gn gc items :=
  ⟨boxed_on h.b5 hb, boxed_on h.b3 hb, boxed_on h.b4 hb⟩

end Go.Proofs.YtkddkkcfpnndlaaDoor
