/- The markets of the chapters' examples, as the laws' texts make them. -/
import Derived.Test.YtbnjeegicbffeaaMg1
namespace Go.Proofs.Ytbnjeegicbffeaa
open Go.RowKit

def m1 : Mkt := ⟨[2], [[9], [5]], [0, 1]⟩
/-- the world in which it is made -/
def m1w (w : World) : World := (((((w.alloc (.cells #[.int .i64 2] 3)).alloc (.cells #[.int .i64 9] 3)).alloc (.cells #[.int .i64 5] 3)).alloc (.cells #[.slice (some ⟨w.heap.size + 1, 0, none⟩) 1 1, .slice (some ⟨w.heap.size + 1 + 1, 0, none⟩) 1 1] 22)).alloc (.cells #[.int .i64 0, .int .i64 1] 3)).alloc
  (.cells #[.slice (some ⟨w.heap.size, 0, none⟩) 1 1, .slice (some ⟨w.heap.size + 1 + 1 + 1, 0, none⟩) 2 2, .slice (some ⟨w.heap.size + 1 + 1 + 1 + 1, 0, none⟩) 2 2] 25)
structure M1At (w W : World) : Prop where
  mkt : MktAt W (some ⟨w.heap.size, 0, none⟩) (some ⟨w.heap.size + 1 + 1 + 1, 0, none⟩) (some ⟨w.heap.size + 1 + 1 + 1 + 1, 0, none⟩) 1 1 2 2 2 2 m1
  row : VRow W (w.heap.size + 1 + 1 + 1 + 1 + 1) 25 [.slice (some ⟨w.heap.size, 0, none⟩) 1 1, .slice (some ⟨w.heap.size + 1 + 1 + 1, 0, none⟩) 2 2, .slice (some ⟨w.heap.size + 1 + 1 + 1 + 1, 0, none⟩) 2 2]
  below : Below w.heap.size w W
theorem M1At.step {w W W' : World} (h : M1At w W) (hb : Below W.heap.size W W') : M1At w W' :=
  ⟨h.mkt.below hb (Nat.le_refl _), h.row.below hb h.row.lt, h.below.trans (hb.mono h.below.size)⟩

/-- rows of a table that is made of lists of integers -/
theorem rows_lit {W : World} {B n : Nat} {vals : List Value} {xss : List (List Int)} (hV : VRow W B 22 vals) (hl : vals.length = n) (hn : xss.length = n) (hb : n ≤ 100)
    (h : ∀ (i : Nat) (xs : List Int), xss[i]? = some xs → ∃ (a : Option Addr) (c : Nat), vals[i]? = some (Value.slice a xs.length c) ∧ Ints W a xs.length c xs) : Rows W (some ⟨B, 0, none⟩) n n xss := by
  have := hV.rows (xss := xss) (by omega) fun i xs hi => by
    obtain ⟨a, c, h1, h2⟩ := h i xs hi
    exact ⟨a, xs.length, c, h1, h2⟩
  rwa [hn] at this

theorem row_lit {W : World} {B : Nat} {xs : List Int} {n : Nat} (h : Row W B 3 xs) (hn : xs.length = n) (hb : n ≤ 100) (hx : ∀ x, x ∈ xs → -1000 ≤ x ∧ x ≤ 1000) : Ints W (some ⟨B, 0, none⟩) n n xs := by
  have := h.ints (by omega) (fun x h => by have := hx x h; omega)
  rwa [hn] at this

theorem m1_at (w : World) : M1At w (m1w w) := by
  have hB : Below w.heap.size w (m1w w) := (((((Below.refl _ w).alloc (Nat.le_refl _) _).alloc (by simp) _).alloc (by simp; omega) _).alloc (by simp; omega) _).alloc (by simp; omega) _ |>.alloc (by simp; omega) _
  have r0 : Row (m1w w) w.heap.size 3 [2] := (((((Row.new w 3 [2]).alloc _).alloc _).alloc _).alloc _).alloc _
  have r1 : Row (m1w w) (w.heap.size + 1) 3 [9] := ((((Row.new' (w.alloc (.cells #[.int .i64 2] 3)) 3 [9] (by simp)).alloc _).alloc _).alloc _).alloc _
  have r2 : Row (m1w w) (w.heap.size + 1 + 1) 3 [5] := (((Row.new' ((w.alloc (.cells #[.int .i64 2] 3)).alloc (.cells #[.int .i64 9] 3)) 3 [5] (by simp)).alloc _).alloc _).alloc _
  have r4 : Row (m1w w) (w.heap.size + 1 + 1 + 1 + 1) 3 [0, 1] := (Row.new' _ 3 [0, 1] (by simp)).alloc _
  have v3 : VRow (m1w w) (w.heap.size + 1 + 1 + 1) 22 [.slice (some ⟨w.heap.size + 1, 0, none⟩) 1 1, .slice (some ⟨w.heap.size + 1 + 1, 0, none⟩) 1 1] := by
    have h := VRow.new (((w.alloc (.cells #[.int .i64 2] 3)).alloc (.cells #[.int .i64 9] 3)).alloc (.cells #[.int .i64 5] 3)) 22 [.slice (some ⟨w.heap.size + 1, 0, none⟩) 1 1, .slice (some ⟨w.heap.size + 1 + 1, 0, none⟩) 1 1]
    rw [show (((w.alloc (.cells #[.int .i64 2] 3)).alloc (.cells #[.int .i64 9] 3)).alloc (.cells #[.int .i64 5] 3)).heap.size = w.heap.size + 1 + 1 + 1 by simp] at h
    exact (h.alloc _).alloc _
  refine ⟨⟨row_lit r0 rfl (by omega) (by decide), rows_lit v3 rfl rfl (by omega) fun i xs hi => ?_, row_lit r4 rfl (by omega) (by decide)⟩, ?_, hB⟩
  · match i, hi with
    | 0, hi => cases hi; exact ⟨_, _, rfl, row_lit r1 rfl (by decide) (by decide)⟩
    | 1, hi => cases hi; exact ⟨_, _, rfl, row_lit r2 rfl (by decide) (by decide)⟩
  · have h := VRow.new (((((w.alloc (.cells #[.int .i64 2] 3)).alloc (.cells #[.int .i64 9] 3)).alloc (.cells #[.int .i64 5] 3)).alloc (.cells #[.slice (some ⟨w.heap.size + 1, 0, none⟩) 1 1, .slice (some ⟨w.heap.size + 1 + 1, 0, none⟩) 1 1] 22)).alloc (.cells #[.int .i64 0, .int .i64 1] 3)) 25 [.slice (some ⟨w.heap.size, 0, none⟩) 1 1, .slice (some ⟨w.heap.size + 1 + 1 + 1, 0, none⟩) 2 2, .slice (some ⟨w.heap.size + 1 + 1 + 1 + 1, 0, none⟩) 2 2]
    rw [show (((((w.alloc (.cells #[.int .i64 2] 3)).alloc (.cells #[.int .i64 9] 3)).alloc (.cells #[.int .i64 5] 3)).alloc (.cells #[.slice (some ⟨w.heap.size + 1, 0, none⟩) 1 1, .slice (some ⟨w.heap.size + 1 + 1, 0, none⟩) 1 1] 22)).alloc (.cells #[.int .i64 0, .int .i64 1] 3)).heap.size = w.heap.size + 1 + 1 + 1 + 1 + 1 by simp] at h
    exact h

/-- a list of integers in a world of its own block -/
theorem lit_ints (w : World) (xs : List Int) (n : Nat) (hn : xs.length = n) (hb : n ≤ 100) (hx : ∀ x, x ∈ xs → -1000 ≤ x ∧ x ≤ 1000) : Ints (w.alloc (.cells (iarr xs) 3)) (some ⟨w.heap.size, 0, none⟩) n n xs := row_lit (Row.new w _ xs) hn hb hx
end Go.Proofs.Ytbnjeegicbffeaa
