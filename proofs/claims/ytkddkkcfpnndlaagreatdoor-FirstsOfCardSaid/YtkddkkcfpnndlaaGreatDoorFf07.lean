/- Bits of numbers below 256, as the walk writes them. A region that draws its order: one walk in the order of the text serves every order, if each operation keeps the world within a class, and yields one value in all of it. -/
import Derived.Test.YtkddkkcfpnndlaaGreatDoorFf00
import Derived.BigQuiet
namespace Go.Proofs.YtkddkkcfpnndlaaGreatDoor
open Go.RowKit

theorem bit_and (who i : Nat) (hw : who < 256) (hi : i < 8) : bits BinOp.and IntKind.i64 ((who : Int) / 2 ^ i) 1 = if who.testBit i then 1 else 0 := by
  have h : ∀ who : Fin 256, ∀ i : Fin 8, bits BinOp.and IntKind.i64 ((who.val : Int) / 2 ^ i.val) 1 = if who.val.testBit i.val then 1 else 0 := by decide +kernel
  exact h ⟨who, hw⟩ ⟨i, hi⟩
theorem bit_pow (i : Nat) (hi : i < 8) : wrap64 ((2 : Int) ^ i) = ((2 ^ i : Nat) : Int) := by
  have h : ∀ i : Fin 8, wrap64 ((2 : Int) ^ i.val) = ((2 ^ i.val : Nat) : Int) := by decide +kernel
  exact h ⟨i, hi⟩
theorem bit_pow' (i : Nat) (hi : i < 8) : IntKind.i64.wrap ((2 : Int) ^ i) = ((2 ^ i : Nat) : Int) := by
  have h : ∀ i : Fin 8, IntKind.i64.wrap ((2 : Int) ^ i.val) = ((2 ^ i.val : Nat) : Int) := by decide +kernel
  exact h ⟨i, hi⟩
theorem bit_less (who i : Nat) (hw : who < 256) (hi : i < 8) (hb : who.testBit i = true) : bits BinOp.andNot IntKind.i64 (who : Int) ((2 ^ i : Nat) : Int) = ((who - 2 ^ i : Nat) : Int) := by
  have h : ∀ who : Fin 256, ∀ i : Fin 8, who.val.testBit i.val = true → bits BinOp.andNot IntKind.i64 (who.val : Int) ((2 ^ i.val : Nat) : Int) = ((who.val - 2 ^ i.val : Nat) : Int) := by decide +kernel
  exact h ⟨who, hw⟩ ⟨i, hi⟩ hb
theorem bit_less_test (who i r : Nat) (hw : who < 256) (hi : i < 8) (hr : r < 8) (hb : who.testBit i = true) : (who - 2 ^ i).testBit r = (who.testBit r && r != i) := by
  have h : ∀ who : Fin 256, ∀ i : Fin 8, who.val.testBit i.val = true → ∀ r : Fin 8, (who.val - 2 ^ i.val).testBit r.val = (who.val.testBit r.val && r.val != i.val) := by decide +kernel
  exact h ⟨who, hw⟩ ⟨i, hi⟩ hb ⟨r, hr⟩
theorem bit_or (who i : Nat) (hw : who < 256) (hi : i < 8) : bits BinOp.or IntKind.i64 (who : Int) ((2 ^ i : Nat) : Int) = ((who ||| 2 ^ i : Nat) : Int) := by
  have h : ∀ who : Fin 256, ∀ i : Fin 8, bits BinOp.or IntKind.i64 (who.val : Int) ((2 ^ i.val : Nat) : Int) = ((who.val ||| 2 ^ i.val : Nat) : Int) := by decide +kernel
  exact h ⟨who, hw⟩ ⟨i, hi⟩
end Go.Proofs.YtkddkkcfpnndlaaGreatDoor

namespace Go.Proofs.YtkddkkcfpnndlaaGreatDoor
open Go.RowKit

/-- a world of a class -/
structure Kept (S : World → Prop) where
  w : World
  h : S w

theorem wp_region_kept {P : Program} (S : World → Prop) {id : Nat} {Q : Exit → Act → World → Prop} {a : Act} {w : World} {l : List Oper} (hm : P.follows .mixedOrders = true) (hB : Region.lexB .any l.toArray = true) (hS : S w.drew)
    (h : wpQuiet P l.toArray (fun w' => ∃ y : Kept S, w' = y.w) (fun a' => ∀ w', (∃ y : Kept S, w' = y.w) → Q .normal a' w') l a) : (Code.region id l.toArray true).wp P Q a w :=
  wp_region_quiet (C := fun w' => ∃ y : Kept S, w' = y.w) hm hB ⟨⟨_, hS⟩, rfl⟩ (by simpa using h)

theorem Kept.call {P : Program} {S : World → Prop} {f : FuncId} {args : Array Value} {w : World} {v : Value} (h : Calls P f args w fun e w' => e = .returned v ∧ S w') :
    Calls P f args w fun e w' => e = .returned v ∧ ∃ y : Kept S, w' = y.w :=
  h.mono fun _ w' ⟨he, hs⟩ => ⟨he, ⟨w', hs⟩, rfl⟩
end Go.Proofs.YtkddkkcfpnndlaaGreatDoor
