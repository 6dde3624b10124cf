/- Walks: halls.Few. Walks: halls.Few: the least set that too many want. -/
import Derived.Test.YtkddkkcfpnndlaaGreatDoorPg38
import Derived.Laws.EntriesVeiled
namespace Go.Proofs.YtkddkkcfpnndlaaGreatDoor
open Go.RowKit Go.Shelf

attribute [local go_sem] Oper.semAt_some

/-- all boxes of the call -/
structure FewAt (w : World) (h : Nat) (ga sa : Option Addr) (gn gc sn sc : Nat) (N : Nat) (W : World) : Prop where
  inn : InAt W (h + 1 + 1) h (h + 1) sa sn sc ga gn gc (N : Int)
  below : Below w.heap.size w W
structure OutAt3 (W : World) (h : Nat) (v : Value) (b : Bool) (e : Int) : Prop where
  b6 : Boxed W (h + 1 + 1 + 1) 25 v
  b7 : Boxed W (h + 1 + 1 + 1 + 1) 4 (.bool b)
  b8 : Boxed W (h + 1 + 1 + 1 + 1 + 1) 29 (.int .i64 e)
theorem FewAt.step {w : World} {h : Nat} {ga sa : Option Addr} {gn gc sn sc N : Nat} {W W' : World} (hA : FewAt w h ga sa gn gc sn sc N W) (hb : Below W.heap.size W W') : FewAt w h ga sa gn gc sn sc N W' := ⟨hA.inn.step hb, hA.below.trans (hb.mono hA.below.size)⟩
theorem OutAt3.step {W W' : World} {h : Nat} {v : Value} {b : Bool} {e : Int} (hA : OutAt3 W h v b e) (hb : Below W.heap.size W W') : OutAt3 W' h v b e := ⟨boxed_on hA.b6 hb, boxed_on hA.b7 hb, boxed_on hA.b8 hb⟩
/-- the three results, all set -/
theorem OutAt3.set {W : World} {h : Nat} {v : Value} {b : Bool} {e : Int} (hA : OutAt3 W h v b e) (v' : Value) (b' : Bool) (e' : Int) :
    OutAt3 (((W.setCell ⟨h + 1 + 1 + 1, 0, none⟩ v').setCell ⟨h + 1 + 1 + 1 + 1, 0, none⟩ (.bool b')).setCell ⟨h + 1 + 1 + 1 + 1 + 1, 0, none⟩ (.int .i64 e')) h v' b' e' :=
  ⟨((hA.b6.set v').other (by omega) _).other (by omega) _, ((hA.b7.other (by omega) _).set _).other (by omega) _, ((hA.b8.other (by omega) _).other (by omega) _).set _⟩
end Go.Proofs.YtkddkkcfpnndlaaGreatDoor

namespace Go.Proofs.YtkddkkcfpnndlaaGreatDoor
open Go.RowKit Go.Shelf

attribute [local go_sem] Oper.semAt_some

/-- what is known of what is handed in -/
structure FewIn (w : World) (ga sa : Option Addr) (gn gc sn sc : Nat) (G : List (List Nat)) (N : Nat) (sm : List Nat) : Prop where
  g : Rows w ga gn gc (G.map nats)
  s : Ints w sa sn sc (nats sm)
  chk : gcheck (G.map nats) (N : Int) = true
  ris : risesFrom (G.map nats).length (-1) (nats sm) = true
  nd : sm.Nodup
  lt : ∀ i, i ∈ sm → i < gn
  n8 : N ≤ 8
  s8 : sn ≤ 8
  b8 : ∀ w, w < gn → ∀ k, k ∈ nbOf G w → k < N
theorem FewIn.len {w : World} {ga sa : Option Addr} {gn gc sn sc : Nat} {G : List (List Nat)} {N : Nat} {sm : List Nat} (h : FewIn w ga sa gn gc sn sc G N sm) : G.length = gn := by have := h.g.len; simpa using this

end Go.Proofs.YtkddkkcfpnndlaaGreatDoor
