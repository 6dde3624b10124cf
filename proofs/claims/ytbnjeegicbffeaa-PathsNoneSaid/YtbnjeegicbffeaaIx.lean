/- Eight numbers as an array's value; those of them that are not 0. -/
import Derived.Test.YtbnjeegicbffeaaPs2
namespace Go.Proofs.Ytbnjeegicbffeaa
open Go.RowKit

/-- eight numbers as an array's value -/
def arr8 (f : Nat → Nat) : List Value := (List.range 8).map fun k => .int .i64 (f k : Int)
theorem index8 (f : Nat → Nat) (k : Nat) (hk : k < 8) (w : World) : (Instr.index 87 (.agg (arr8 f).toArray) (.int .i64 (k : Int))).run Try.prog w = .ok (.int .i64 (f k : Int)) w := by
  obtain rfl | rfl | rfl | rfl | rfl | rfl | rfl | rfl : k = 0 ∨ k = 1 ∨ k = 2 ∨ k = 3 ∨ k = 4 ∨ k = 5 ∨ k = 6 ∨ k = 7 := by omega
  all_goals kernel_rfl

/-- what is come to, as a list -/
def whatOf (came : Nat → Nat) (n : Nat) : List Nat := (List.range n).filter fun k => decide (0 < came k)
theorem whatOf_succ (came : Nat → Nat) (n : Nat) : whatOf came (n + 1) = whatOf came n ++ if 0 < came n then [n] else [] := by
  unfold whatOf
  rw [List.range_succ, List.filter_append]
  by_cases h : 0 < came n <;> simp [h]
theorem whatOf_length (came : Nat → Nat) (n : Nat) : (whatOf came n).length ≤ n := by
  have := List.length_filter_le (fun k => decide (0 < came k)) (List.range n)
  simpa [whatOf] using this

end Go.Proofs.Ytbnjeegicbffeaa
