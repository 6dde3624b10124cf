/- Bits of numbers below 256, as the walk writes them. -/
import Derived.Test.YtbnjeegicbffeaaMem
namespace Go.Proofs.Ytbnjeegicbffeaa
open Go.RowKit

theorem bit_and (who i : Nat) (hw : who < 256) (hi : i < 8) : bits BinOp.and IntKind.i64 ((who : Int) / 2 ^ i) 1 = if who.testBit i then 1 else 0 := by
  have h : ∀ who : Fin 256, ∀ i : Fin 8, bits BinOp.and IntKind.i64 ((who.val : Int) / 2 ^ i.val) 1 = if who.val.testBit i.val then 1 else 0 := by decide +kernel
  exact h ⟨who, hw⟩ ⟨i, hi⟩
theorem bit_pow (i : Nat) (hi : i < 8) : wrap64 ((2 : Int) ^ i) = ((2 ^ i : Nat) : Int) := by
  have h : ∀ i : Fin 8, wrap64 ((2 : Int) ^ i.val) = ((2 ^ i.val : Nat) : Int) := by decide +kernel
  exact h ⟨i, hi⟩
theorem bit_pow' (i : Nat) (hi : i < 8) : IntKind.i64.wrap ((2 : Int) ^ i) = ((2 ^ i : Nat) : Int) := by
  have h : ∀ i : Fin 8, IntKind.i64.wrap ((2 : Int) ^ i.val) = ((2 ^ i.val : Nat) : Int) := by decide +kernel
  exact h ⟨i, hi⟩
theorem bit_less (who i : Nat) (hw : who < 256) (hi : i < 8) (hb : who.testBit i = true) : bits BinOp.andNot IntKind.i64 (who : Int) ((2 ^ i : Nat) : Int) = ((who - 2 ^ i : Nat) : Int) := by
  have h : ∀ who : Fin 256, ∀ i : Fin 8, who.val.testBit i.val = true → bits BinOp.andNot IntKind.i64 (who.val : Int) ((2 ^ i.val : Nat) : Int) = ((who.val - 2 ^ i.val : Nat) : Int) := by decide +kernel
  exact h ⟨who, hw⟩ ⟨i, hi⟩ hb
theorem bit_less_test (who i r : Nat) (hw : who < 256) (hi : i < 8) (hr : r < 8) (hb : who.testBit i = true) : (who - 2 ^ i).testBit r = (who.testBit r && r != i) := by
  have h : ∀ who : Fin 256, ∀ i : Fin 8, who.val.testBit i.val = true → ∀ r : Fin 8, (who.val - 2 ^ i.val).testBit r.val = (who.val.testBit r.val && r.val != i.val) := by decide +kernel
  exact h ⟨who, hw⟩ ⟨i, hi⟩ hb ⟨r, hr⟩
theorem bit_or (who i : Nat) (hw : who < 256) (hi : i < 8) : bits BinOp.or IntKind.i64 (who : Int) ((2 ^ i : Nat) : Int) = ((who ||| 2 ^ i : Nat) : Int) := by
  have h : ∀ who : Fin 256, ∀ i : Fin 8, bits BinOp.or IntKind.i64 (who.val : Int) ((2 ^ i.val : Nat) : Int) = ((who.val ||| 2 ^ i.val : Nat) : Int) := by decide +kernel
  exact h ⟨who, hw⟩ ⟨i, hi⟩
end Go.Proofs.Ytbnjeegicbffeaa
