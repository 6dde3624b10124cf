/- A block of lists that the call has made and writes. -/
import Derived.Test.YtbnjeegicbffeaaOwn2
namespace Go.Proofs.Ytbnjeegicbffeaa
open Go.RowKit

def VRow (w : World) (B : Nat) (T : TypeId) (vals : List Value) : Prop := w.heap[B]? = some (.cells vals.toArray T (0, 0))
theorem VRow.cell {w : World} {B : Nat} {T : TypeId} {vals : List Value} (h : VRow w B T vals) {k : Nat} {v : Value} (hx : vals[k]? = some v) : w.cell? ⟨B, k, none⟩ = some v := by
  rw [cell_of_row w B k _ T _ h]; simpa using hx
theorem VRow.frozen {w : World} {B : Nat} {T : TypeId} {vals : List Value} (h : VRow w B T vals) (k : Nat) : w.frozen? ⟨B, k, none⟩ = false := frozen_of_row w B k _ T h
theorem VRow.lt {w : World} {B : Nat} {T : TypeId} {vals : List Value} (h : VRow w B T vals) : B < w.heap.size := by
  rcases Nat.lt_or_ge B w.heap.size with h1 | h1
  · exact h1
  · unfold VRow at h; rw [Array.getElem?_eq_none h1] at h; cases h
theorem VRow.set {w : World} {B : Nat} {T : TypeId} {vals : List Value} (h : VRow w B T vals) (k : Nat) (v : Value) : VRow (w.setCell ⟨B, k, none⟩ v) B T (vals.set k v) := by
  unfold VRow; rw [heap_setCell_same w B k _ T _ h]; simp
theorem VRow.alloc {w : World} {B : Nat} {T : TypeId} {vals : List Value} (h : VRow w B T vals) (o : Obj) : VRow (w.alloc o) B T vals := by
  unfold VRow; rw [Below.heap_alloc w o B h.lt]; exact h
theorem VRow.below {w w' : World} {B B' : Nat} {T : TypeId} {vals : List Value} (h : VRow w B T vals) (hb : Below B' w w') (hB : B < B') : VRow w' B T vals := by
  unfold VRow; rw [hb.block B hB]; exact h
theorem VRow.new (w : World) (T : TypeId) (vals : List Value) : VRow (w.alloc (.cells vals.toArray T)) w.heap.size T vals := heap_alloc_new w _
theorem VRow.drew {w : World} {B : Nat} {T : TypeId} {vals : List Value} (h : VRow w B T vals) : VRow w.drew B T vals := h

/-- 'make([][]int, n)' -/
theorem mkRows (c : Nat) (hc : c ≤ 1000000) (w : World) : (Instr.makeSlice 23 (.int .i64 (c : Int)) (.int .i64 (c : Int))).run Try.prog w = .ok (.slice (some ⟨w.heap.size, 0, none⟩) c c) (w.alloc (.cells (List.replicate c (Value.slice none 0 0)).toArray 22)) := by
  obtain ⟨i0, hi, hz0, hz1, hz2⟩ := info_parts infoInts
  have h := run_make (P := Try.prog) w 23 22 i0 _ Try.underlying23 hi hz0 .i64 .i64 c c (by omega) (by omega) (by rw [hz2]; omega) (by omega)
  rw [hz1] at h
  have e : madeCells (Value.slice none 0 0).cells (c * 1) = (List.replicate c (Value.slice none 0 0)).toArray := by
    apply Array.ext'
    rw [show (Value.slice none 0 0).cells = #[.slice none 0 0] from rfl, toList_madeCells_one]
    simp
  rw [Int.toNat_natCast, e] at h
  exact h

theorem VRow.rows {w : World} {B : Nat} {T : TypeId} {vals : List Value} {xss : List (List Int)} (h : VRow w B T vals) (hbig : xss.length ≤ 4611686018427387904)
    (hv : ∀ (i : Nat) (xs : List Int), xss[i]? = some xs → ∃ (a : Option Addr) (n c : Nat), vals[i]? = some (Value.slice a n c) ∧ Ints w a n c xs) : Rows w (some ⟨B, 0, none⟩) xss.length xss.length xss :=
  ⟨rfl, Nat.le_refl _, hbig, fun _ => ⟨_, _, rfl⟩, fun b o e k xs hx => by
    cases e
    obtain ⟨a, n, c, e1, e2⟩ := hv k xs hx
    exact ⟨a, n, c, by rw [Nat.zero_add]; exact h.cell e1, e2⟩⟩

theorem Own.drew {w : World} {base : Nat} {v : Value} {xs : List Int} (h : Own w base v xs) : Own w.drew base v xs := h
theorem Own.other {w : World} {base : Nat} {v : Value} {xs : List Int} (h : Own w base v xs) {a : Addr} (ha : a.block < base) (u : Value) : Own (w.setCell a u) base v xs := by
  obtain ⟨h1, h2⟩ := h
  refine ⟨h1, ?_⟩
  rcases h2 with h2 | ⟨g, cap, cur, hv, hg, hh, r⟩
  · exact .inl h2
  · exact .inr ⟨g, cap, cur, hv, hg, by rw [heap_setCell_other w a g u (by omega)]; exact hh, r⟩
end Go.Proofs.Ytbnjeegicbffeaa
