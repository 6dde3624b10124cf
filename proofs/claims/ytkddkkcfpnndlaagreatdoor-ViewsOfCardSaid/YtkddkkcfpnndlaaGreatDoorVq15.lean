/- A block of lists that the call has made and writes. A list of lists that a call makes, list by list. -/
import Derived.Test.YtkddkkcfpnndlaaGreatDoorVq14
import Derived.Deep.RegionHeld
namespace Go.Proofs.YtkddkkcfpnndlaaGreatDoor
open Go.RowKit

def VRow (w : World) (B : Nat) (T : TypeId) (vals : List Value) : Prop := w.heap[B]? = some (.cells vals.toArray T (0, 0))
theorem VRow.cell {w : World} {B : Nat} {T : TypeId} {vals : List Value} (h : VRow w B T vals) {k : Nat} {v : Value} (hx : vals[k]? = some v) : w.cell? ⟨B, k, none⟩ = some v := by
  rw [cell_of_row w B k _ T _ h]; simpa using hx
theorem VRow.frozen {w : World} {B : Nat} {T : TypeId} {vals : List Value} (h : VRow w B T vals) (k : Nat) : w.frozen? ⟨B, k, none⟩ = false := frozen_of_row w B k _ T h
theorem VRow.lt {w : World} {B : Nat} {T : TypeId} {vals : List Value} (h : VRow w B T vals) : B < w.heap.size := by
  rcases Nat.lt_or_ge B w.heap.size with h1 | h1
  · exact h1
  · unfold VRow at h; rw [Array.getElem?_eq_none h1] at h; cases h
theorem VRow.set {w : World} {B : Nat} {T : TypeId} {vals : List Value} (h : VRow w B T vals) (k : Nat) (v : Value) : VRow (w.setCell ⟨B, k, none⟩ v) B T (vals.set k v) := by
  unfold VRow; rw [heap_setCell_same w B k _ T _ h]; simp
theorem VRow.alloc {w : World} {B : Nat} {T : TypeId} {vals : List Value} (h : VRow w B T vals) (o : Obj) : VRow (w.alloc o) B T vals := by
  unfold VRow; rw [Below.heap_alloc w o B h.lt]; exact h
theorem VRow.below {w w' : World} {B B' : Nat} {T : TypeId} {vals : List Value} (h : VRow w B T vals) (hb : Below B' w w') (hB : B < B') : VRow w' B T vals := by
  unfold VRow; rw [hb.block B hB]; exact h
theorem VRow.new (w : World) (T : TypeId) (vals : List Value) : VRow (w.alloc (.cells vals.toArray T)) w.heap.size T vals := heap_alloc_new w _
theorem VRow.drew {w : World} {B : Nat} {T : TypeId} {vals : List Value} (h : VRow w B T vals) : VRow w.drew B T vals := h

/-- 'make([][]int, n)' -/
theorem mkRows (c : Nat) (hc : c ≤ 1000000) (w : World) : (Instr.makeSlice 22 (.int .i64 (c : Int)) (.int .i64 (c : Int))).run Tryz.prog w = .ok (.slice (some ⟨w.heap.size, 0, none⟩) c c) (w.alloc (.cells (List.replicate c (Value.slice none 0 0)).toArray 25)) := by
  obtain ⟨i0, hi, hz0, hz1, hz2⟩ := info_parts infoInts
  have h := run_make (P := Tryz.prog) w 22 25 i0 _ Tryz.underlying22 hi hz0 .i64 .i64 c c (by omega) (by omega) (by rw [hz2]; omega) (by omega)
  rw [hz1] at h
  have e : madeCells (Value.slice none 0 0).cells (c * 1) = (List.replicate c (Value.slice none 0 0)).toArray := by
    apply Array.ext'
    rw [show (Value.slice none 0 0).cells = #[.slice none 0 0] from rfl, toList_madeCells_one]
    simp
  rw [Int.toNat_natCast, e] at h
  exact h

theorem VRow.rows {w : World} {B : Nat} {T : TypeId} {vals : List Value} {xss : List (List Int)} (h : VRow w B T vals) (hbig : xss.length ≤ 4611686018427387904)
    (hv : ∀ (i : Nat) (xs : List Int), xss[i]? = some xs → ∃ (a : Option Addr) (n c : Nat), vals[i]? = some (Value.slice a n c) ∧ Ints w a n c xs) : Rows w (some ⟨B, 0, none⟩) xss.length xss.length xss :=
  ⟨rfl, Nat.le_refl _, hbig, fun _ => ⟨_, _, rfl⟩, fun b o e k xs hx => by
    cases e
    obtain ⟨a, n, c, e1, e2⟩ := hv k xs hx
    exact ⟨a, n, c, by rw [Nat.zero_add]; exact h.cell e1, e2⟩⟩

theorem Own.drew {w : World} {base : Nat} {v : Value} {xs : List Int} (h : Own w base v xs) : Own w.drew base v xs := h
theorem Own.other {w : World} {base : Nat} {v : Value} {xs : List Int} (h : Own w base v xs) {a : Addr} (ha : a.block < base) (u : Value) : Own (w.setCell a u) base v xs := by
  obtain ⟨h1, h2⟩ := h
  refine ⟨h1, ?_⟩
  rcases h2 with h2 | ⟨g, cap, cur, hv, hg, hh, r⟩
  · exact .inl h2
  · exact .inr ⟨g, cap, cur, hv, hg, by rw [heap_setCell_other w a g u (by omega)]; exact hh, r⟩
end Go.Proofs.YtkddkkcfpnndlaaGreatDoor

namespace Go.Proofs.YtkddkkcfpnndlaaGreatDoor
open Go.RowKit

theorem Ints.far {w : World} {a : Option Addr} {n c : Nat} {xs : List Int} (h : Ints w a n c xs) {p : Addr} (hne : 0 < n → ∀ b o, a = some ⟨b, o, none⟩ → b ≠ p.block) (u : Value) : Ints (w.setCell p u) a n c xs :=
  ⟨h.len, h.cap, h.big, h.addr, fun b o e k x hx => by
    rw [World.cell?_setCell_far w p ⟨b, o + k, none⟩ u (fun e' => hne (by have := (List.getElem?_eq_some_iff.1 hx).1; have := h.len; omega) b o e e'.symm)]; exact h.cell b o e k x hx, h.bd, h.nil⟩
theorem Ints.alloc {w : World} {a : Option Addr} {n c : Nat} {xs : List Int} (h : Ints w a n c xs) (o : Obj) : Ints (w.alloc o) a n c xs :=
  h.below ((Below.refl _ _).alloc (Nat.le_refl _) _) (Nat.le_refl _)
theorem Ints.upTo {w w' : World} {a : Option Addr} {n c B : Nat} {xs : List Int} (h : Ints w a n c xs) (hb : Below B w w') (hlt : 0 < n → ∀ b o, a = some ⟨b, o, none⟩ → b < B) : Ints w' a n c xs :=
  ⟨h.len, h.cap, h.big, h.addr, fun b o e k x hx => by
    rw [hb.cell (p := ⟨b, o + k, none⟩) (hlt (by have := (List.getElem?_eq_some_iff.1 hx).1; have := h.len; omega) b o e)]; exact h.cell b o e k x hx, h.bd, h.nil⟩

structure Made (w : World) (B base top n : Nat) (xss : List (List Int)) (vals : List Value) : Prop where
  row : VRow w B 25 vals
  len : vals.length = n
  lo : base ≤ B
  hi : B < top
  done : ∀ (j : Nat) (xs : List Int), xss[j]? = some xs → ∃ (a : Option Addr) (c : Nat), vals[j]? = some (Value.slice a xs.length c) ∧ Ints w a xs.length c xs ∧ (0 < xs.length → ∀ b o : Nat, a = some ⟨b, o, none⟩ → base ≤ b ∧ b < top ∧ b ≠ B)

theorem Made.other {w : World} {B base top n : Nat} {xss : List (List Int)} {vals : List Value} (h : Made w B base top n xss vals) {p : Addr} (hp : top ≤ p.block) (u : Value) : Made (w.setCell p u) B base top n xss vals := by
  refine ⟨?_, h.len, h.lo, h.hi, fun j xs hj => ?_⟩
  · unfold VRow; rw [heap_setCell_other w p B u (by have := h.hi; omega)]; exact h.row
  · obtain ⟨a, c, h1, h2, h3⟩ := h.done j xs hj
    exact ⟨a, c, h1, h2.far (fun hn b o e => by have := (h3 hn b o e).2.1; omega) u, h3⟩
theorem Made.under {w : World} {B base top n : Nat} {xss : List (List Int)} {vals : List Value} (h : Made w B base top n xss vals) {p : Addr} (hp : p.block < base) (u : Value) : Made (w.setCell p u) B base top n xss vals := by
  refine ⟨?_, h.len, h.lo, h.hi, fun j xs hj => ?_⟩
  · unfold VRow; rw [heap_setCell_other w p B u (by have := h.lo; omega)]; exact h.row
  · obtain ⟨a, c, h1, h2, h3⟩ := h.done j xs hj
    exact ⟨a, c, h1, h2.far (fun hn b o e => by have := (h3 hn b o e).1; omega) u, h3⟩
theorem Made.alloc {w : World} {B base top n : Nat} {xss : List (List Int)} {vals : List Value} (h : Made w B base top n xss vals) (o : Obj) : Made (w.alloc o) B base top n xss vals := by
  refine ⟨h.row.alloc o, h.len, h.lo, h.hi, fun j xs hj => ?_⟩
  obtain ⟨a, c, h1, h2, h3⟩ := h.done j xs hj
  exact ⟨a, c, h1, h2.alloc o, h3⟩
theorem Made.drew {w : World} {B base top n : Nat} {xss : List (List Int)} {vals : List Value} (h : Made w B base top n xss vals) : Made w.drew B base top n xss vals := by
  refine ⟨h.row.drew, h.len, h.lo, h.hi, fun j xs hj => ?_⟩
  obtain ⟨a, c, h1, h2, h3⟩ := h.done j xs hj
  exact ⟨a, c, h1, h2.drew, h3⟩
theorem Made.below {w w' : World} {B base top n B' : Nat} {xss : List (List Int)} {vals : List Value} (h : Made w B base top n xss vals) (hb : Below B' w w') (ht : top ≤ B') : Made w' B base top n xss vals := by
  refine ⟨h.row.below hb (by have := h.hi; omega), h.len, h.lo, h.hi, fun j xs hj => ?_⟩
  obtain ⟨a, c, h1, h2, h3⟩ := h.done j xs hj
  exact ⟨a, c, h1, h2.upTo hb (fun hn b o e => by have := (h3 hn b o e).2.1; omega), h3⟩
/-- an entry behind those that are done is written -/
theorem Made.set {w : World} {B base top n : Nat} {xss : List (List Int)} {vals : List Value} (h : Made w B base top n xss vals) {i : Nat} (hi : xss.length ≤ i) (v : Value) : Made (w.setCell ⟨B, i, none⟩ v) B base top n xss (vals.set i v) := by
  refine ⟨h.row.set i v, by rw [List.length_set]; exact h.len, h.lo, h.hi, fun j xs hj => ?_⟩
  obtain ⟨a, c, h1, h2, h3⟩ := h.done j xs hj
  have hjl := (List.getElem?_eq_some_iff.1 hj).1
  exact ⟨a, c, by rw [List.getElem?_set_ne (by omega)]; exact h1, h2.far (fun hn b o e => (h3 hn b o e).2.2) v, h3⟩
/-- one more is done -/
theorem Made.push {w : World} {B base top top' n : Nat} {xss : List (List Int)} {xs : List Int} {vals : List Value} (h : Made w B base top n xss vals) (ht : top ≤ top') {a : Option Addr} {c : Nat} (hv : vals[xss.length]? = some (Value.slice a xs.length c)) (hI : Ints w a xs.length c xs)
    (hne : 0 < xs.length → ∀ b o : Nat, a = some ⟨b, o, none⟩ → base ≤ b ∧ b < top' ∧ b ≠ B) : Made w B base top' n (xss ++ [xs]) vals := by
  refine ⟨h.row, h.len, h.lo, by have := h.hi; omega, fun j ys hj => ?_⟩
  by_cases e : j < xss.length
  · rw [List.getElem?_append_left e] at hj
    obtain ⟨a, c, h1, h2, h3⟩ := h.done j ys hj
    exact ⟨a, c, h1, h2, fun hn b o e => ⟨(h3 hn b o e).1, Nat.lt_of_lt_of_le (h3 hn b o e).2.1 ht, (h3 hn b o e).2.2⟩⟩
  · have : j = xss.length := by have := (List.getElem?_eq_some_iff.1 hj).1; simp at this; omega
    subst this
    rw [List.getElem?_append_right (Nat.le_refl _), Nat.sub_self] at hj
    cases hj
    exact ⟨a, c, hv, hI, hne⟩
theorem Made.rows {w : World} {B base top n : Nat} {xss : List (List Int)} {vals : List Value} (h : Made w B base top n xss vals) (hn : xss.length = n) (hbig : n ≤ 4611686018427387904) : Rows w (some ⟨B, 0, none⟩) n n xss := by
  have := h.row.rows (xss := xss) (by omega) fun j xs hj => by
    obtain ⟨a, c, h1, h2, _⟩ := h.done j xs hj
    exact ⟨a, xs.length, c, h1, h2⟩
  rwa [hn] at this
theorem Made.lower {w : World} {B base base' top n : Nat} {xss : List (List Int)} {vals : List Value} (h : Made w B base top n xss vals) (hb : base' ≤ base) : Made w B base' top n xss vals :=
  ⟨h.row, h.len, Nat.le_trans hb h.lo, h.hi, fun j xs hj => by
    obtain ⟨a, c, h1, h2, h3⟩ := h.done j xs hj
    exact ⟨a, c, h1, h2, fun hn b o e => ⟨Nat.le_trans hb (h3 hn b o e).1, (h3 hn b o e).2⟩⟩⟩
theorem Made.start (w : World) (n : Nat) : Made (w.alloc (.cells (List.replicate n (Value.slice none 0 0)).toArray 25)) w.heap.size w.heap.size (w.heap.size + 1) n [] (List.replicate n (Value.slice none 0 0)) :=
  ⟨VRow.new _ _ _, by simp, Nat.le_refl _, by omega, fun j xs hj => by simp at hj⟩

end Go.Proofs.YtkddkkcfpnndlaaGreatDoor
