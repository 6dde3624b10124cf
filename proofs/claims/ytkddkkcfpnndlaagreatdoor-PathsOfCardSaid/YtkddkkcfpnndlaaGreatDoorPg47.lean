/- FirstsOf: what First and its reference answer; what the law's state keeps. -/
import Derived.Test.YtkddkkcfpnndlaaGreatDoorPg25
import Derived.Test.YtkddkkcfpnndlaaGreatDoorPg15
import Derived.Test.YtkddkkcfpnndlaaGreatDoorPg29
import Derived.Test.YtkddkkcfpnndlaaGreatDoorPg07
import Derived.Test.YtkddkkcfpnndlaaGreatDoorPg18
import Derived.Test.YtkddkkcfpnndlaaGreatDoorPg33
import Derived.Test.YtkddkkcfpnndlaaGreatDoorPg45
import Derived.Test.YtkddkkcfpnndlaaGreatDoorPg46
import Derived.Test.YtkddkkcfpnndlaaGreatDoorPg17
import Derived.Test.YtkddkkcfpnndlaaGreatDoorPg10
namespace Go.Proofs.YtkddkkcfpnndlaaGreatDoor
open Go.RowKit Sale

theorem toNat_back (on : List Nat) : (on.map fun k : Nat => (k : Int)).map Int.toNat = on := by
  rw [List.map_map]
  conv => rhs; rw [← List.map_id on]
  exact List.map_congr_left fun x _ => by simp
/-- what the law is given, in memory -/
structure FSt (w0 : World) (B1 : Nat) (ga oa : Option Addr) (gn gc o_n oc : Nat) (gains : List (List Int)) (items : Int) (order : List Int) (wr : World) : Prop where
  v : VRow wr B1 24 [.slice ga gn gc, .int .i64 items]
  g : Rows wr ga gn gc gains
  o : Ints wr oa o_n oc order
  below : Below w0.heap.size w0 wr
theorem FSt.step {w0 : World} {B1 : Nat} {ga oa : Option Addr} {gn gc o_n oc : Nat} {gains : List (List Int)} {items : Int} {order : List Int} {wr wr' : World} (h : FSt w0 B1 ga oa gn gc o_n oc gains items order wr) (hb : Below wr.heap.size wr wr') : FSt w0 B1 ga oa gn gc o_n oc gains items order wr' :=
  ⟨h.v.below hb h.v.lt, h.g.below hb (Nat.le_refl _), h.o.below hb (Nat.le_refl _), h.below.trans (hb.mono h.below.size)⟩
/-- the law's copies -/
structure TSt (l5 B c M : Nat) (vals : List Value) (gs : List Nat) (gains : List (List Int)) (l6 g6 c6 : Nat) (order : List Int) (wr : World) : Prop where
  x : RowsF wr l5 B c M vals gs gains
  y : RowF wr l6 g6 c6 order
theorem TSt.step {l5 B c M : Nat} {vals : List Value} {gs : List Nat} {gains : List (List Int)} {l6 g6 c6 : Nat} {order : List Int} {wr wr' : World} (h : TSt l5 B c M vals gs gains l6 g6 c6 order wr) (hb : Below wr.heap.size wr wr') : TSt l5 B c M vals gs gains l6 g6 c6 order wr' :=
  ⟨h.x.below hb (Nat.le_refl _), h.y.below hb (Nat.le_refl _)⟩
/-- lists that lie apart, below a bound -/
structure GSt (lo hi : Nat) (rs : List Slc) (x : Slc) (wr : World) : Prop where
  a : Seg 3 wr lo hi rs
  b : Seg 25 wr lo hi [x]
  le : hi ≤ wr.heap.size
theorem GSt.step {lo hi : Nat} {rs : List Slc} {x : Slc} {wr wr' : World} (h : GSt lo hi rs x wr) (hb : Below wr.heap.size wr wr') : GSt lo hi rs x wr' :=
  ⟨h.a.keep (hb.mono h.le), h.b.keep (hb.mono h.le), Nat.le_trans h.le hb.size⟩
theorem GSt.more {lo hi : Nat} {rs : List Slc} {x y : Slc} {wr : World} (h : GSt lo hi rs x wr) (h2 : Seg 3 wr hi wr.heap.size [y]) (hl : lo ≤ hi) : GSt lo wr.heap.size (rs ++ [y]) x wr :=
  ⟨h.a.append h2 hl h.le, h.b.wide (Nat.le_refl _) h.le, Nat.le_refl _⟩
theorem GSt.wide {lo hi : Nat} {rs : List Slc} {x : Slc} {wr : World} (h : GSt lo hi rs x wr) : GSt lo wr.heap.size rs x wr :=
  ⟨h.a.wide (Nat.le_refl _) h.le, h.b.wide (Nat.le_refl _) h.le, Nat.le_refl _⟩
theorem RowsF.gst {w : World} {base B c M n : Nat} {vals : List Value} {gs : List Nat} {xss : List (List Int)} (h : RowsF w base B c M vals gs xss) (hn : xss.length = n) : GSt base w.heap.size (vals.map toSlc) ⟨some ⟨B, 0, none⟩, n, c⟩ w :=
  ⟨h.seg fun g hg => (h.rows.at' g hg).2.2, h.seg2 hn, Nat.le_refl _⟩
end Go.Proofs.YtkddkkcfpnndlaaGreatDoor
