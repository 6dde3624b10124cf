/- A region that draws its order: one walk in the order of the text serves every order, if each operation keeps the world within a class, and yields one value in all of it. -/
import Derived.Test.YtkddkkcfpnndlaaGreatDoorPg00
import Derived.BigQuiet
namespace Go.Proofs.YtkddkkcfpnndlaaGreatDoor
open Go.RowKit

/-- a world of a class -/
structure Kept (S : World → Prop) where
  w : World
  h : S w

theorem wp_region_kept {P : Program} (S : World → Prop) {id : Nat} {Q : Exit → Act → World → Prop} {a : Act} {w : World} {l : List Oper} (hm : P.follows .mixedOrders = true) (hB : Region.lexB .any l.toArray = true) (hS : S w.drew)
    (h : wpQuiet P l.toArray (fun w' => ∃ y : Kept S, w' = y.w) (fun a' => ∀ w', (∃ y : Kept S, w' = y.w) → Q .normal a' w') l a) : (Code.region id l.toArray true).wp P Q a w :=
  wp_region_quiet (C := fun w' => ∃ y : Kept S, w' = y.w) hm hB ⟨⟨_, hS⟩, rfl⟩ (by simpa using h)

theorem Kept.call {P : Program} {S : World → Prop} {f : FuncId} {args : Array Value} {w : World} {v : Value} (h : Calls P f args w fun e w' => e = .returned v ∧ S w') :
    Calls P f args w fun e w' => e = .returned v ∧ ∃ y : Kept S, w' = y.w :=
  h.mono fun _ w' ⟨he, hs⟩ => ⟨he, ⟨w', hs⟩, rfl⟩
end Go.Proofs.YtkddkkcfpnndlaaGreatDoor
