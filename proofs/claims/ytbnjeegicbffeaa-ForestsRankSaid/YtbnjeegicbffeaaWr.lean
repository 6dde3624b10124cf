/- A block of pairs (a bidder, a rank) that a call has made and writes. -/
import Derived.Test.YtbnjeegicbffeaaFo4
import Derived.Test.YtbnjeegicbffeaaVRow
namespace Go.Proofs.Ytbnjeegicbffeaa
open Go.RowKit

def pairVals : List (Int × Int) → List Value
  | [] => []
  | p :: l => .int .i64 p.1 :: .int .i64 p.2 :: pairVals l
theorem pairVals_get : ∀ {l : List (Int × Int)} {k : Nat} {p : Int × Int}, l[k]? = some p → (pairVals l)[k * 2]? = some (.int .i64 p.1) ∧ (pairVals l)[k * 2 + 1]? = some (.int .i64 p.2)
  | [], k, p, h => by simp at h
  | q :: l, 0, p, h => by simp at h; subst h; exact ⟨rfl, rfl⟩
  | q :: l, k + 1, p, h => by
    have := pairVals_get (l := l) (k := k) (p := p) (by simpa using h)
    rw [show (k + 1) * 2 = k * 2 + 1 + 1 by omega]
    exact this
theorem pairVals_set1 : ∀ {l : List (Int × Int)} {k : Nat} {p : Int × Int} (x : Int), l[k]? = some p → (pairVals l).set (k * 2) (.int .i64 x) = pairVals (l.set k (x, p.2))
  | [], k, p, x, h => by simp at h
  | q :: l, 0, p, x, h => by simp at h; subst h; rfl
  | q :: l, k + 1, p, x, h => by
    have := pairVals_set1 (l := l) (k := k) (p := p) x (by simpa using h)
    rw [show (k + 1) * 2 = k * 2 + 1 + 1 by omega]
    simp only [pairVals, List.set_cons_succ]
    rw [this]
theorem pairVals_set2 : ∀ {l : List (Int × Int)} {k : Nat} {p : Int × Int} (y : Int), l[k]? = some p → (pairVals l).set (k * 2 + 1) (.int .i64 y) = pairVals (l.set k (p.1, y))
  | [], k, p, x, h => by simp at h
  | q :: l, 0, p, x, h => by simp at h; subst h; rfl
  | q :: l, k + 1, p, x, h => by
    have := pairVals_set2 (l := l) (k := k) (p := p) x (by simpa using h)
    rw [show (k + 1) * 2 + 1 = k * 2 + 1 + 1 + 1 by omega]
    simp only [pairVals, List.set_cons_succ]
    rw [this]
theorem pairVals_zeros : ∀ n : Nat, pairVals (List.replicate n (0, 0)) = List.replicate (n * 2) (Value.int .i64 0)
  | 0 => rfl
  | n + 1 => by
    rw [List.replicate_succ, show (n + 1) * 2 = n * 2 + 1 + 1 by omega, List.replicate_succ, List.replicate_succ]
    show _ :: _ :: pairVals (List.replicate n (0, 0)) = _
    rw [pairVals_zeros n]

def WRow (w : World) (B : Nat) (l : List (Int × Int)) : Prop := VRow w B 35 (pairVals l)
theorem WRow.cell {w : World} {B : Nat} {l : List (Int × Int)} (h : WRow w B l) {k : Nat} {p : Int × Int} (hp : l[k]? = some p) : w.cell? ⟨B, k * 2, none⟩ = some (.int .i64 p.1) ∧ w.cell? ⟨B, k * 2 + 1, none⟩ = some (.int .i64 p.2) :=
  ⟨VRow.cell h (pairVals_get hp).1, VRow.cell h (pairVals_get hp).2⟩
theorem WRow.set1 {w : World} {B : Nat} {l : List (Int × Int)} (h : WRow w B l) {k : Nat} {p : Int × Int} (hp : l[k]? = some p) (x : Int) : WRow (w.setCell ⟨B, k * 2, none⟩ (.int .i64 x)) B (l.set k (x, p.2)) := by
  unfold WRow; rw [← pairVals_set1 x hp]; exact VRow.set h _ _
theorem WRow.set2 {w : World} {B : Nat} {l : List (Int × Int)} (h : WRow w B l) {k : Nat} {p : Int × Int} (hp : l[k]? = some p) (y : Int) : WRow (w.setCell ⟨B, k * 2 + 1, none⟩ (.int .i64 y)) B (l.set k (p.1, y)) := by
  unfold WRow; rw [← pairVals_set2 y hp]; exact VRow.set h _ _
theorem WRow.step {w w' : World} {B : Nat} {l : List (Int × Int)} (h : WRow w B l) (hb : Below w.heap.size w w') : WRow w' B l := VRow.stp h hb
theorem WRow.grown {w w' : World} {B : Nat} {l : List (Int × Int)} {row : Option Nat} (h : WRow w B l) (hg : w.grownBy w' row) (hne : row ≠ some B) : WRow w' B l := by
  unfold WRow VRow; rw [hg.block B (VRow.lt h) (fun e => hne e.symm)]; exact h
theorem WRow.whys {w : World} {B : Nat} {l : List (Int × Int)} (h : WRow w B l) (hbig : l.length ≤ 4611686018427387904) (hbd : ∀ p, p ∈ l → (-9223372036854775808 ≤ p.1 ∧ p.1 ≤ 9223372036854775807) ∧ -9223372036854775808 ≤ p.2 ∧ p.2 ≤ 9223372036854775807) : Whys w (some ⟨B, 0, none⟩) l.length l.length l :=
  ⟨rfl, Nat.le_refl _, hbig, fun _ => ⟨_, _, rfl⟩, fun b o e k p hp => by
    cases e
    have := h.cell hp
    rw [Nat.zero_add]
    exact this, hbd⟩

theorem infoWhy : (Try.prog.info? 35).map (fun i => (i.zero, i.size, i.bytes)) = some (some (.agg #[.int .i64 0, .int .i64 0]), 2, 16) := by kernel_rfl
theorem made2 (n : Nat) : (madeCells #[Value.int .i64 0, .int .i64 0] n).toList = List.replicate n (.int .i64 0) := by
  apply List.ext_getElem?
  intro j
  by_cases hj : j < n
  · rcases (by omega : j % 2 = 0 ∨ j % 2 = 1) with e | e <;> simp [madeCells, hj, e]
  · simp [madeCells, hj]
/-- 'make([]api.Why, n)' -/
theorem mkWhys (c : Nat) (hc : c ≤ 1000000) (w : World) : (Instr.makeSlice 28 (.int .i64 (c : Int)) (.int .i64 (c : Int))).run Try.prog w = .ok (.slice (some ⟨w.heap.size, 0, none⟩) c c) (w.alloc (.cells (pairVals (List.replicate c (0, 0))).toArray 35)) := by
  obtain ⟨i0, hi, hz0, hz1, hz2⟩ := info_parts infoWhy
  have h := run_make (P := Try.prog) w 28 35 i0 _ Try.underlying28 hi hz0 .i64 .i64 c c (by omega) (by omega) (by rw [hz2]; omega) (by omega)
  rw [hz1] at h
  have e : madeCells (Value.agg #[.int .i64 0, .int .i64 0]).cells (c * 2) = (pairVals (List.replicate c (0, 0))).toArray := by
    rw [pairVals_zeros]
    apply Array.ext'
    exact made2 _
  rw [Int.toNat_natCast, e] at h
  exact h
end Go.Proofs.Ytbnjeegicbffeaa
