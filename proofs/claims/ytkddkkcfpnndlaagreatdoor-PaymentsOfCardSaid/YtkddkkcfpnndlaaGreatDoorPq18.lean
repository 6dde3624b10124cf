/- A list of lists that a call makes, list by list. -/
import Derived.Test.YtkddkkcfpnndlaaGreatDoorPq08
import Derived.Deep.RegionHeld
namespace Go.Proofs.YtkddkkcfpnndlaaGreatDoor
open Go.RowKit

theorem Ints.far {w : World} {a : Option Addr} {n c : Nat} {xs : List Int} (h : Ints w a n c xs) {p : Addr} (hne : 0 < n → ∀ b o, a = some ⟨b, o, none⟩ → b ≠ p.block) (u : Value) : Ints (w.setCell p u) a n c xs :=
  ⟨h.len, h.cap, h.big, h.addr, fun b o e k x hx => by
    rw [World.cell?_setCell_far w p ⟨b, o + k, none⟩ u (fun e' => hne (by have := (List.getElem?_eq_some_iff.1 hx).1; have := h.len; omega) b o e e'.symm)]; exact h.cell b o e k x hx, h.bd, h.nil⟩
theorem Ints.alloc {w : World} {a : Option Addr} {n c : Nat} {xs : List Int} (h : Ints w a n c xs) (o : Obj) : Ints (w.alloc o) a n c xs :=
  h.below ((Below.refl _ _).alloc (Nat.le_refl _) _) (Nat.le_refl _)
theorem Ints.upTo {w w' : World} {a : Option Addr} {n c B : Nat} {xs : List Int} (h : Ints w a n c xs) (hb : Below B w w') (hlt : 0 < n → ∀ b o, a = some ⟨b, o, none⟩ → b < B) : Ints w' a n c xs :=
  ⟨h.len, h.cap, h.big, h.addr, fun b o e k x hx => by
    rw [hb.cell (p := ⟨b, o + k, none⟩) (hlt (by have := (List.getElem?_eq_some_iff.1 hx).1; have := h.len; omega) b o e)]; exact h.cell b o e k x hx, h.bd, h.nil⟩

structure Made (w : World) (B base top n : Nat) (xss : List (List Int)) (vals : List Value) : Prop where
  row : VRow w B 25 vals
  len : vals.length = n
  lo : base ≤ B
  hi : B < top
  done : ∀ (j : Nat) (xs : List Int), xss[j]? = some xs → ∃ (a : Option Addr) (c : Nat), vals[j]? = some (Value.slice a xs.length c) ∧ Ints w a xs.length c xs ∧ (0 < xs.length → ∀ b o : Nat, a = some ⟨b, o, none⟩ → base ≤ b ∧ b < top ∧ b ≠ B)

theorem Made.other {w : World} {B base top n : Nat} {xss : List (List Int)} {vals : List Value} (h : Made w B base top n xss vals) {p : Addr} (hp : top ≤ p.block) (u : Value) : Made (w.setCell p u) B base top n xss vals := by
  refine ⟨?_, h.len, h.lo, h.hi, fun j xs hj => ?_⟩
  · unfold VRow; rw [heap_setCell_other w p B u (by have := h.hi; omega)]; exact h.row
  · obtain ⟨a, c, h1, h2, h3⟩ := h.done j xs hj
    exact ⟨a, c, h1, h2.far (fun hn b o e => by have := (h3 hn b o e).2.1; omega) u, h3⟩
theorem Made.under {w : World} {B base top n : Nat} {xss : List (List Int)} {vals : List Value} (h : Made w B base top n xss vals) {p : Addr} (hp : p.block < base) (u : Value) : Made (w.setCell p u) B base top n xss vals := by
  refine ⟨?_, h.len, h.lo, h.hi, fun j xs hj => ?_⟩
  · unfold VRow; rw [heap_setCell_other w p B u (by have := h.lo; omega)]; exact h.row
  · obtain ⟨a, c, h1, h2, h3⟩ := h.done j xs hj
    exact ⟨a, c, h1, h2.far (fun hn b o e => by have := (h3 hn b o e).1; omega) u, h3⟩
theorem Made.alloc {w : World} {B base top n : Nat} {xss : List (List Int)} {vals : List Value} (h : Made w B base top n xss vals) (o : Obj) : Made (w.alloc o) B base top n xss vals := by
  refine ⟨h.row.alloc o, h.len, h.lo, h.hi, fun j xs hj => ?_⟩
  obtain ⟨a, c, h1, h2, h3⟩ := h.done j xs hj
  exact ⟨a, c, h1, h2.alloc o, h3⟩
theorem Made.drew {w : World} {B base top n : Nat} {xss : List (List Int)} {vals : List Value} (h : Made w B base top n xss vals) : Made w.drew B base top n xss vals := by
  refine ⟨h.row.drew, h.len, h.lo, h.hi, fun j xs hj => ?_⟩
  obtain ⟨a, c, h1, h2, h3⟩ := h.done j xs hj
  exact ⟨a, c, h1, h2.drew, h3⟩
theorem Made.below {w w' : World} {B base top n B' : Nat} {xss : List (List Int)} {vals : List Value} (h : Made w B base top n xss vals) (hb : Below B' w w') (ht : top ≤ B') : Made w' B base top n xss vals := by
  refine ⟨h.row.below hb (by have := h.hi; omega), h.len, h.lo, h.hi, fun j xs hj => ?_⟩
  obtain ⟨a, c, h1, h2, h3⟩ := h.done j xs hj
  exact ⟨a, c, h1, h2.upTo hb (fun hn b o e => by have := (h3 hn b o e).2.1; omega), h3⟩
/-- an entry behind those that are done is written -/
theorem Made.set {w : World} {B base top n : Nat} {xss : List (List Int)} {vals : List Value} (h : Made w B base top n xss vals) {i : Nat} (hi : xss.length ≤ i) (v : Value) : Made (w.setCell ⟨B, i, none⟩ v) B base top n xss (vals.set i v) := by
  refine ⟨h.row.set i v, by rw [List.length_set]; exact h.len, h.lo, h.hi, fun j xs hj => ?_⟩
  obtain ⟨a, c, h1, h2, h3⟩ := h.done j xs hj
  have hjl := (List.getElem?_eq_some_iff.1 hj).1
  exact ⟨a, c, by rw [List.getElem?_set_ne (by omega)]; exact h1, h2.far (fun hn b o e => (h3 hn b o e).2.2) v, h3⟩
/-- one more is done -/
theorem Made.push {w : World} {B base top top' n : Nat} {xss : List (List Int)} {xs : List Int} {vals : List Value} (h : Made w B base top n xss vals) (ht : top ≤ top') {a : Option Addr} {c : Nat} (hv : vals[xss.length]? = some (Value.slice a xs.length c)) (hI : Ints w a xs.length c xs)
    (hne : 0 < xs.length → ∀ b o : Nat, a = some ⟨b, o, none⟩ → base ≤ b ∧ b < top' ∧ b ≠ B) : Made w B base top' n (xss ++ [xs]) vals := by
  refine ⟨h.row, h.len, h.lo, by have := h.hi; omega, fun j ys hj => ?_⟩
  by_cases e : j < xss.length
  · rw [List.getElem?_append_left e] at hj
    obtain ⟨a, c, h1, h2, h3⟩ := h.done j ys hj
    exact ⟨a, c, h1, h2, fun hn b o e => ⟨(h3 hn b o e).1, Nat.lt_of_lt_of_le (h3 hn b o e).2.1 ht, (h3 hn b o e).2.2⟩⟩
  · have : j = xss.length := by have := (List.getElem?_eq_some_iff.1 hj).1; simp at this; omega
    subst this
    rw [List.getElem?_append_right (Nat.le_refl _), Nat.sub_self] at hj
    cases hj
    exact ⟨a, c, hv, hI, hne⟩
theorem Made.rows {w : World} {B base top n : Nat} {xss : List (List Int)} {vals : List Value} (h : Made w B base top n xss vals) (hn : xss.length = n) (hbig : n ≤ 4611686018427387904) : Rows w (some ⟨B, 0, none⟩) n n xss := by
  have := h.row.rows (xss := xss) (by omega) fun j xs hj => by
    obtain ⟨a, c, h1, h2, _⟩ := h.done j xs hj
    exact ⟨a, xs.length, c, h1, h2⟩
  rwa [hn] at this
theorem Made.lower {w : World} {B base base' top n : Nat} {xss : List (List Int)} {vals : List Value} (h : Made w B base top n xss vals) (hb : base' ≤ base) : Made w B base' top n xss vals :=
  ⟨h.row, h.len, Nat.le_trans hb h.lo, h.hi, fun j xs hj => by
    obtain ⟨a, c, h1, h2, h3⟩ := h.done j xs hj
    exact ⟨a, c, h1, h2, fun hn b o e => ⟨Nat.le_trans hb (h3 hn b o e).1, (h3 hn b o e).2⟩⟩⟩
theorem Made.start (w : World) (n : Nat) : Made (w.alloc (.cells (List.replicate n (Value.slice none 0 0)).toArray 25)) w.heap.size w.heap.size (w.heap.size + 1) n [] (List.replicate n (Value.slice none 0 0)) :=
  ⟨VRow.new _ _ _, by simp, Nat.le_refl _, by omega, fun j xs hj => by simp at hj⟩

end Go.Proofs.YtkddkkcfpnndlaaGreatDoor
