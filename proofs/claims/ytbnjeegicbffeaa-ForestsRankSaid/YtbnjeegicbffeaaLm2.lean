/- The second market of the chapters' examples, as the laws' texts make it. -/
import Derived.Test.YtbnjeegicbffeaaLm
namespace Go.Proofs.Ytbnjeegicbffeaa
open Go.RowKit

def m2 : Mkt := ⟨[0, 0], [[4, 4], [4, 4], [3, 0]], [0, 1, 2]⟩
def m2w (w : World) (N : Nat) : World := (((((((w.alloc (.cells #[.int .i64 0, .int .i64 0] 3)).alloc (.cells #[.int .i64 4, .int .i64 4] 3)).alloc (.cells #[.int .i64 4, .int .i64 4] 3)).alloc (.cells #[.int .i64 3, .int .i64 0] 3)).alloc (.cells #[.slice (some ⟨N + 1, 0, none⟩) 2 2, .slice (some ⟨N + 1 + 1, 0, none⟩) 2 2, .slice (some ⟨N + 1 + 1 + 1, 0, none⟩) 2 2] 22)).alloc (.cells #[.int .i64 0, .int .i64 1, .int .i64 2] 3)).alloc (.cells #[.slice (some ⟨N, 0, none⟩) 2 2, .slice (some ⟨N + 1 + 1 + 1 + 1, 0, none⟩) 3 3, .slice (some ⟨N + 1 + 1 + 1 + 1 + 1, 0, none⟩) 3 3] 25))
structure M2At (w : World) (N : Nat) (W : World) : Prop where
  mkt : MktAt W (some ⟨N, 0, none⟩) (some ⟨N + 1 + 1 + 1 + 1, 0, none⟩) (some ⟨N + 1 + 1 + 1 + 1 + 1, 0, none⟩) 2 2 3 3 3 3 m2
  row : VRow W (N + 1 + 1 + 1 + 1 + 1 + 1) 25 [.slice (some ⟨N, 0, none⟩) 2 2, .slice (some ⟨N + 1 + 1 + 1 + 1, 0, none⟩) 3 3, .slice (some ⟨N + 1 + 1 + 1 + 1 + 1, 0, none⟩) 3 3]
  below : Below w.heap.size w W
theorem M2At.step {w W W' : World} {N : Nat} (h : M2At w N W) (hb : Below W.heap.size W W') : M2At w N W' :=
  ⟨h.mkt.below hb (Nat.le_refl _), h.row.below hb h.row.lt, h.below.trans (hb.mono h.below.size)⟩
theorem M1At.stepTo {w W W' : World} (h : M1At w W) {B : Nat} (hB : W.heap.size ≤ B) (hb : Below B W W') : M1At w W' := h.step (hb.mono hB)
theorem m2_at (w : World) (N : Nat) (hN : w.heap.size = N) : M2At w N (m2w w N) := by
  subst hN
  have hB : Below w.heap.size w (m2w w w.heap.size) := (((((((Below.refl _ w).alloc (Nat.le_refl _) _).alloc (by simp) _).alloc (by simp; omega) _).alloc (by simp; omega) _).alloc (by simp; omega) _).alloc (by simp; omega) _).alloc (by simp; omega) _
  have r0 : Row (m2w w w.heap.size) (w.heap.size) 3 [0, 0] := (((((((Row.new' (w) 3 [0, 0] (by simp)).alloc _).alloc _).alloc _).alloc _).alloc _).alloc _)
  have r1 : Row (m2w w w.heap.size) (w.heap.size + 1) 3 [4, 4] := ((((((Row.new' ((w.alloc (.cells #[.int .i64 0, .int .i64 0] 3))) 3 [4, 4] (by simp)).alloc _).alloc _).alloc _).alloc _).alloc _)
  have r2 : Row (m2w w w.heap.size) (w.heap.size + 1 + 1) 3 [4, 4] := (((((Row.new' (((w.alloc (.cells #[.int .i64 0, .int .i64 0] 3)).alloc (.cells #[.int .i64 4, .int .i64 4] 3))) 3 [4, 4] (by simp)).alloc _).alloc _).alloc _).alloc _)
  have r3 : Row (m2w w w.heap.size) (w.heap.size + 1 + 1 + 1) 3 [3, 0] := ((((Row.new' ((((w.alloc (.cells #[.int .i64 0, .int .i64 0] 3)).alloc (.cells #[.int .i64 4, .int .i64 4] 3)).alloc (.cells #[.int .i64 4, .int .i64 4] 3))) 3 [3, 0] (by simp)).alloc _).alloc _).alloc _)
  have r5 : Row (m2w w w.heap.size) (w.heap.size + 1 + 1 + 1 + 1 + 1) 3 [0, 1, 2] := ((Row.new' ((((((w.alloc (.cells #[.int .i64 0, .int .i64 0] 3)).alloc (.cells #[.int .i64 4, .int .i64 4] 3)).alloc (.cells #[.int .i64 4, .int .i64 4] 3)).alloc (.cells #[.int .i64 3, .int .i64 0] 3)).alloc (.cells #[.slice (some ⟨w.heap.size + 1, 0, none⟩) 2 2, .slice (some ⟨w.heap.size + 1 + 1, 0, none⟩) 2 2, .slice (some ⟨w.heap.size + 1 + 1 + 1, 0, none⟩) 2 2] 22))) 3 [0, 1, 2] (by simp)).alloc _)
  have v4 : VRow (m2w w w.heap.size) (w.heap.size + 1 + 1 + 1 + 1) 22 [.slice (some ⟨w.heap.size + 1, 0, none⟩) 2 2, .slice (some ⟨w.heap.size + 1 + 1, 0, none⟩) 2 2, .slice (some ⟨w.heap.size + 1 + 1 + 1, 0, none⟩) 2 2] := by
    have h := VRow.new (((((w.alloc (.cells #[.int .i64 0, .int .i64 0] 3)).alloc (.cells #[.int .i64 4, .int .i64 4] 3)).alloc (.cells #[.int .i64 4, .int .i64 4] 3)).alloc (.cells #[.int .i64 3, .int .i64 0] 3))) 22 [.slice (some ⟨w.heap.size + 1, 0, none⟩) 2 2, .slice (some ⟨w.heap.size + 1 + 1, 0, none⟩) 2 2, .slice (some ⟨w.heap.size + 1 + 1 + 1, 0, none⟩) 2 2]
    rw [show (((((w.alloc (.cells #[.int .i64 0, .int .i64 0] 3)).alloc (.cells #[.int .i64 4, .int .i64 4] 3)).alloc (.cells #[.int .i64 4, .int .i64 4] 3)).alloc (.cells #[.int .i64 3, .int .i64 0] 3))).heap.size = w.heap.size + 1 + 1 + 1 + 1 by simp] at h
    exact (h.alloc _).alloc _
  refine ⟨⟨row_lit r0 rfl (by omega) (by decide), rows_lit v4 rfl rfl (by omega) fun i xs hi => ?_, row_lit r5 rfl (by omega) (by decide)⟩, ?_, hB⟩
  · match i, hi with
    | 0, hi => cases hi; exact ⟨_, _, rfl, row_lit r1 rfl (by decide) (by decide)⟩
    | 1, hi => cases hi; exact ⟨_, _, rfl, row_lit r2 rfl (by decide) (by decide)⟩
    | 2, hi => cases hi; exact ⟨_, _, rfl, row_lit r3 rfl (by decide) (by decide)⟩
  · have h := VRow.new (((((((w.alloc (.cells #[.int .i64 0, .int .i64 0] 3)).alloc (.cells #[.int .i64 4, .int .i64 4] 3)).alloc (.cells #[.int .i64 4, .int .i64 4] 3)).alloc (.cells #[.int .i64 3, .int .i64 0] 3)).alloc (.cells #[.slice (some ⟨w.heap.size + 1, 0, none⟩) 2 2, .slice (some ⟨w.heap.size + 1 + 1, 0, none⟩) 2 2, .slice (some ⟨w.heap.size + 1 + 1 + 1, 0, none⟩) 2 2] 22)).alloc (.cells #[.int .i64 0, .int .i64 1, .int .i64 2] 3))) 25 [.slice (some ⟨w.heap.size, 0, none⟩) 2 2, .slice (some ⟨w.heap.size + 1 + 1 + 1 + 1, 0, none⟩) 3 3, .slice (some ⟨w.heap.size + 1 + 1 + 1 + 1 + 1, 0, none⟩) 3 3]
    rw [show (((((((w.alloc (.cells #[.int .i64 0, .int .i64 0] 3)).alloc (.cells #[.int .i64 4, .int .i64 4] 3)).alloc (.cells #[.int .i64 4, .int .i64 4] 3)).alloc (.cells #[.int .i64 3, .int .i64 0] 3)).alloc (.cells #[.slice (some ⟨w.heap.size + 1, 0, none⟩) 2 2, .slice (some ⟨w.heap.size + 1 + 1, 0, none⟩) 2 2, .slice (some ⟨w.heap.size + 1 + 1 + 1, 0, none⟩) 2 2] 22)).alloc (.cells #[.int .i64 0, .int .i64 1, .int .i64 2] 3))).heap.size = w.heap.size + 1 + 1 + 1 + 1 + 1 + 1 by simp] at h
    exact h
end Go.Proofs.Ytbnjeegicbffeaa
