/- Words for memory that is read as lists of integers, and as lists of such lists, and what keeps them. No program in sight but for the kit's. -/
import Derived.WalkKit
import Derived.WalkSpells
import Derived.WalkLawsBesides
import Derived.Lib.Hide
import Derived.Deep.LoopGhost
import Derived.Deep.DeepCutAuto
import Derived.Deep.DeepFit
import Derived.BigQuiet
namespace Go.Proofs.YtkddkkcfpnndlaaGreatDoor
open Go.RowKit

theorem ret_bool {a b : Bool} (h : a = b) : Ending.returned (.bool a) = .returned (.bool b) := by rw [h]
theorem ret_int {k : IntKind} {a b : Int} (h : a = b) : Ending.returned (.int k a) = .returned (.int k b) := by rw [h]

structure Ints (w : World) (a : Option Addr) (n c : Nat) (xs : List Int) : Prop where
 len : xs.length = n
 cap : n ≤ c
 big : n ≤ 4611686018427387904
 addr : 0 < n → ∃ b o, a = some ⟨b, o, none⟩
 cell : ∀ b o, a = some ⟨b, o, none⟩ → ∀ k x, xs[k]? = some x → w.cell? ⟨b, o + k, none⟩ = some (.int .i64 x)
 bd : ∀ x, x ∈ xs → -9223372036854775808 ≤ x ∧ x ≤ 9223372036854775807
 nil : a = none → n = 0 ∧ c = 0

theorem Ints.get {w : World} {a : Option Addr} {n c : Nat} {xs : List Int} (h : Ints w a n c xs) {k : Nat} (hk : k < n) : ∃ x, xs[k]? = some x ∧ -9223372036854775808 ≤ x ∧ x ≤ 9223372036854775807 :=
 ⟨xs[k]'(by have := h.len; omega), by simp, h.bd _ (List.getElem_mem _)⟩

theorem Ints.empty (w : World) (a : Option Addr) (c : Nat) (h : a = none → c = 0 := by simp) : Ints w a 0 c [] :=
  ⟨rfl, Nat.zero_le _, by omega, fun h => absurd h (by omega), fun _ _ _ k x h => by simp at h, fun x h => by simp at h, fun e => ⟨rfl, h e⟩⟩

theorem Ints.below {w w' : World} {a : Option Addr} {n c : Nat} {xs : List Int} (h : Ints w a n c xs) {B : Nat} (hb : Below B w w') (hB : w.heap.size ≤ B) : Ints w' a n c xs :=
 ⟨h.len, h.cap, h.big, h.addr, fun b o e k x hx => by
   have hc := h.cell b o e k x hx
   have := block_lt_of_cell hc
   rw [hb.cell (p := ⟨b, o + k, none⟩) (by simp at this ⊢; omega)]; exact hc, h.bd, h.nil⟩

theorem Ints.drew {w : World} {a : Option Addr} {n c : Nat} {xs : List Int} (h : Ints w a n c xs) : Ints w.drew a n c xs := ⟨h.len, h.cap, h.big, h.addr, h.cell, h.bd, h.nil⟩

theorem Ints.one {w : World} {t : TypeId} (x : Int) (hx : -9223372036854775808 ≤ x ∧ x ≤ 9223372036854775807) : Ints (w.alloc (.cells #[.int .i64 x] t)) (some ⟨w.heap.size, 0, none⟩) 1 1 [x] :=
 ⟨rfl, by omega, by omega, fun _ => ⟨_, _, rfl⟩, fun b o e k y hy => by
   cases e
   cases k with
   | zero => simp at hy; subst hy; simp [World.cell?_alloc_at]
   | succ k => simp at hy, fun y hy => by simp at hy; subst hy; exact hx, fun e => by cases e⟩

structure Rows (w : World) (a : Option Addr) (n c : Nat) (xss : List (List Int)) : Prop where
 len : xss.length = n
 cap : n ≤ c
 big : n ≤ 4611686018427387904
 addr : 0 < n → ∃ b o, a = some ⟨b, o, none⟩
 cell : ∀ b o, a = some ⟨b, o, none⟩ → ∀ k xs, xss[k]? = some xs → ∃ a' n' c', w.cell? ⟨b, o + k, none⟩ = some (.slice a' n' c') ∧ Ints w a' n' c' xs

theorem Rows.get {w : World} {a : Option Addr} {n c : Nat} {xss : List (List Int)} (h : Rows w a n c xss) {k : Nat} (hk : k < n) : ∃ xs, xss[k]? = some xs :=
 ⟨xss[k]'(by have := h.len; omega), by simp⟩

theorem Rows.nil (w : World) (a : Option Addr) (c : Nat) : Rows w a 0 c [] :=
 ⟨rfl, Nat.zero_le _, by omega, fun h => absurd h (by omega), fun _ _ _ k x h => by simp at h⟩

theorem Rows.below {w w' : World} {a : Option Addr} {n c : Nat} {xss : List (List Int)} (h : Rows w a n c xss) {B : Nat} (hb : Below B w w') (hB : w.heap.size ≤ B) : Rows w' a n c xss :=
 ⟨h.len, h.cap, h.big, h.addr, fun b o e k xs hx => by
   obtain ⟨a', n', c', hc, hi⟩ := h.cell b o e k xs hx
   have := block_lt_of_cell hc
   exact ⟨a', n', c', by rw [hb.cell (p := ⟨b, o + k, none⟩) (by simp at this ⊢; omega)]; exact hc, hi.below hb hB⟩⟩

theorem Rows.row {w w' : World} {a : Option Addr} {n c : Nat} {xss : List (List Int)} (h : Rows w a n c xss) {B : Nat} (hb : Below B w w') (hB : w.heap.size ≤ B) {b o k : Nat} {xs : List Int} (e : a = some ⟨b, o, none⟩) (hx : xss[k]? = some xs) :
   ∃ a' n' c', w'.cell? ⟨b, o + k, none⟩ = some (.slice a' n' c') ∧ Ints w a' n' c' xs := by
 obtain ⟨a', n', c', hc, hi⟩ := h.cell b o e k xs hx
 have := block_lt_of_cell hc
 exact ⟨a', n', c', by rw [hb.cell (p := ⟨b, o + k, none⟩) (by simp at this ⊢; omega)]; exact hc, hi⟩

def RetList (err : Int) (xs : List Int) (w : World) (e : Ending) (w' : World) : Prop := ∃ a n c, e = .returned (.tuple #[.slice a n c, .int .i64 err]) ∧ Ints w' a n c xs ∧ Below w.heap.size w w'

/-! ### a block of integers that the call has made -/
def iarr (xs : List Int) : Array Value := (xs.map (Value.int .i64)).toArray
theorem iarr_get (xs : List Int) (k : Nat) : (iarr xs)[k]? = (xs[k]?).map (Value.int .i64) := by simp [iarr]
theorem iarr_size (xs : List Int) : (iarr xs).size = xs.length := by simp [iarr]
theorem iarr_set (xs : List Int) (k : Nat) (v : Int) : (iarr xs).setIfInBounds k (.int .i64 v) = iarr (xs.set k v) := by simp [iarr, List.map_set]

def Row (w : World) (B : Nat) (T : TypeId) (xs : List Int) : Prop := w.heap[B]? = some (.cells (iarr xs) T (0, 0))
theorem Row.cell {w : World} {B : Nat} {T : TypeId} {xs : List Int} (h : Row w B T xs) {k : Nat} {x : Int} (hx : xs[k]? = some x) : w.cell? ⟨B, k, none⟩ = some (.int .i64 x) := by
 rw [cell_of_row w B k _ T _ h, iarr_get, hx]; rfl
theorem Row.frozen {w : World} {B : Nat} {T : TypeId} {xs : List Int} (h : Row w B T xs) (k : Nat) : w.frozen? ⟨B, k, none⟩ = false := frozen_of_row w B k _ T h
theorem Row.lt {w : World} {B : Nat} {T : TypeId} {xs : List Int} (h : Row w B T xs) : B < w.heap.size := by
 rcases Nat.lt_or_ge B w.heap.size with h1 | h1
 · exact h1
 · unfold Row at h; rw [Array.getElem?_eq_none h1] at h; cases h
theorem Row.set {w : World} {B : Nat} {T : TypeId} {xs : List Int} (h : Row w B T xs) (k : Nat) (v : Int) : Row (w.setCell ⟨B, k, none⟩ (.int .i64 v)) B T (xs.set k v) := by
 unfold Row; rw [heap_setCell_same w B k _ T _ h, iarr_set]
theorem Row.other {w : World} {B : Nat} {T : TypeId} {xs : List Int} (h : Row w B T xs) {a : Addr} (ha : B ≠ a.block) (v : Value) : Row (w.setCell a v) B T xs := by
 unfold Row; rw [heap_setCell_other w a B v ha]; exact h
theorem Row.alloc {w : World} {B : Nat} {T : TypeId} {xs : List Int} (h : Row w B T xs) (o : Obj) : Row (w.alloc o) B T xs := by
 unfold Row; rw [Below.heap_alloc w o B h.lt]; exact h
theorem Row.below {w w' : World} {B B' : Nat} {T : TypeId} {xs : List Int} (h : Row w B T xs) (hb : Below B' w w') (hB : B < B') : Row w' B T xs := by
 unfold Row; rw [hb.block B hB]; exact h
theorem Row.new' (w : World) (T : TypeId) (xs : List Int) {B : Nat} (h : B = w.heap.size) : Row (w.alloc (.cells (iarr xs) T)) B T xs := h ▸ heap_alloc_new w _
theorem Row.drew {w : World} {B : Nat} {T : TypeId} {xs : List Int} (h : Row w B T xs) : Row w.drew B T xs := h
theorem Row.new (w : World) (T : TypeId) (xs : List Int) : Row (w.alloc (.cells (iarr xs) T)) w.heap.size T xs := heap_alloc_new w _

theorem Row.ints {w : World} {B : Nat} {T : TypeId} {xs : List Int} (h : Row w B T xs) (hbig : xs.length ≤ 4611686018427387904) (hbd : ∀ x, x ∈ xs → -9223372036854775808 ≤ x ∧ x ≤ 9223372036854775807) : Ints w (some ⟨B, 0, none⟩) xs.length xs.length xs :=
 ⟨rfl, Nat.le_refl _, hbig, fun _ => ⟨_, _, rfl⟩, fun b o e k x hx => by cases e; rw [Nat.zero_add]; exact h.cell hx, hbd, fun e => by cases e⟩

theorem bcell {W w1 : World} (hb : Below W.heap.size W w1) : (∀ b o, b < W.heap.size → w1.cell? ⟨b, o, none⟩ = W.cell? ⟨b, o, none⟩) ∧ (∀ b o, b < W.heap.size → w1.frozen? ⟨b, o, none⟩ = W.frozen? ⟨b, o, none⟩) :=
 ⟨fun b o h => hb.cell (p := ⟨b, o, none⟩) h, fun b o h => hb.frozen (p := ⟨b, o, none⟩) h⟩

end Go.Proofs.YtkddkkcfpnndlaaGreatDoor
