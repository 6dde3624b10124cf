/- Walks: paths.begin: what a search holds in memory. -/
import Derived.Test.YtbnjeegicbffeaaPs1
namespace Go.Proofs.Ytbnjeegicbffeaa
open Go.RowKit

def iv (n : Nat) : Value := .int .i64 (n : Int)
/-- a search's cells -/
def sCells (g h wv : Value) (came hold : Nat → Nat) : List Value := g :: h :: wv :: ((List.range 8).map (fun k => iv (came k)) ++ (List.range 8).map (fun k => iv (hold k)))
theorem sCells_came {g h wv : Value} {came hold : Nat → Nat} {k : Nat} (hk : k < 8) : (sCells g h wv came hold)[3 + k]? = some (iv (came k)) := by
  unfold sCells
  rw [show 3 + k = k + 1 + 1 + 1 by omega, List.getElem?_cons_succ, List.getElem?_cons_succ, List.getElem?_cons_succ, List.getElem?_append_left (by simpa using hk)]
  simp [hk]
theorem sCells_hold {g h wv : Value} {came hold : Nat → Nat} {k : Nat} (hk : k < 8) : (sCells g h wv came hold)[11 + k]? = some (iv (hold k)) := by
  unfold sCells
  rw [show 11 + k = k + 8 + 1 + 1 + 1 by omega, List.getElem?_cons_succ, List.getElem?_cons_succ, List.getElem?_cons_succ, List.getElem?_append_right (by simp)]
  simp [hk]
theorem tab8_set {f : Nat → Nat} {k v : Nat} (hk : k < 8) : ((List.range 8).map fun j => iv (f j)).set k (iv v) = (List.range 8).map fun j => iv (Way.mark f k v j) := by
  apply List.ext_getElem?
  intro j
  rw [List.getElem?_set]
  by_cases hj : j < 8
  · by_cases e : k = j
    · subst e; simp [hj, Way.mark_same]
    · simp [hj, e, Way.mark_other (Ne.symm e)]
  · rw [if_neg (by omega), List.getElem?_eq_none (by simp; omega), List.getElem?_eq_none (by simp; omega)]
theorem sCells_setCame {g h wv : Value} {came hold : Nat → Nat} {k v : Nat} (hk : k < 8) : (sCells g h wv came hold).set (3 + k) (iv v) = sCells g h wv (Way.mark came k v) hold := by
  unfold sCells
  rw [show 3 + k = k + 1 + 1 + 1 by omega, List.set_cons_succ, List.set_cons_succ, List.set_cons_succ, List.set_append_left _ _ (by simpa using hk), tab8_set hk]
theorem sCells_setHold {g h wv : Value} {came hold : Nat → Nat} {k v : Nat} (hk : k < 8) : (sCells g h wv came hold).set (11 + k) (iv v) = sCells g h wv came (Way.mark hold k v) := by
  unfold sCells
  rw [show 11 + k = k + 8 + 1 + 1 + 1 by omega, List.set_cons_succ, List.set_cons_succ, List.set_cons_succ, List.set_append_right _ _ (by simp), show k + 8 - ((List.range 8).map fun j => iv (came j)).length = k by simp, tab8_set hk]
theorem sCells_setWaits {g h wv wv' : Value} {came hold : Nat → Nat} : (sCells g h wv came hold).set 2 wv' = sCells g h wv' came hold := rfl

/-- numbers of no sign as the code has them -/
def nats (l : List Nat) : List Int := l.map fun k : Nat => (k : Int)

/-- a search: its block is B + 1; what waits lies in a block of its own, from B on -/
def Srch (w : World) (B : Nat) (g h : Value) (s : Way.St) (hold : Nat → Nat) : Prop :=
  ∃ wv : Value, VRow w (B + 1) 89 (sCells g h wv s.came hold) ∧ Own w B wv (nats s.ws) ∧ wv.ownBlock ≠ some (B + 1)

/-- a list in the call's own block, which may be written -/
structure MyRow (w : World) (base : Nat) (a : Option Addr) (n c : Nat) (xs : List Int) : Prop where
  len : xs.length = n
  cap : n ≤ c
  nil : a = none → n = 0 ∧ c = 0
  own : 0 < n → ∃ g cur, a = some ⟨g, 0, none⟩ ∧ base ≤ g ∧ w.heap[g]? = some (.cells cur 3 (0, 0)) ∧ n ≤ cur.size ∧ cur.toList.take n = xs.map (Value.int .i64)

theorem Own.myRow {w : World} {base : Nat} {v : Value} {xs : List Int} (h : Own w base v xs) : ∃ a c, v = .slice a xs.length c ∧ MyRow w base a xs.length c xs ∧ c ≤ maxLen := by
  obtain ⟨h1, h2⟩ := h
  rcases h2 with ⟨hv, hn⟩ | ⟨g, cap, cur, hv, hg, hh, hc, hm, hs, ht⟩
  · exact ⟨none, 0, by rw [hv, hn], ⟨rfl, by omega, fun _ => ⟨hn, rfl⟩, fun h => by omega⟩, Nat.zero_le _⟩
  · exact ⟨some ⟨g, 0, none⟩, cap, hv, ⟨rfl, hc, (fun e => by cases e), fun _ => ⟨g, cur, rfl, hg, hh, by omega, by simpa using ht⟩⟩, hm⟩

theorem MyRow.clip {w : World} {base : Nat} {a : Option Addr} {n c : Nat} {xs : List Int} (h : MyRow w base a n c xs) : MyRow w base a n n xs :=
  ⟨h.len, Nat.le_refl _, fun e => ⟨(h.nil e).1, (h.nil e).1⟩, h.own⟩

theorem MyRow.lt {w : World} {base : Nat} {a : Option Addr} {n c : Nat} {xs : List Int} (h : MyRow w base a n c xs) (hn : 0 < n) : ∃ g, a = some ⟨g, 0, none⟩ ∧ base ≤ g ∧ g < w.heap.size := by
  obtain ⟨g, cur, e, hg, hh, _⟩ := h.own hn
  refine ⟨g, e, hg, ?_⟩
  rcases Nat.lt_or_ge g w.heap.size with h | h
  · exact h
  · rw [Array.getElem?_eq_none h] at hh; cases hh

theorem MyRow.below {w w' : World} {base B : Nat} {a : Option Addr} {n c : Nat} {xs : List Int} (h : MyRow w base a n c xs) (hb : Below B w w') (hB : w.heap.size ≤ B) : MyRow w' base a n c xs :=
  ⟨h.len, h.cap, h.nil, fun hn => by
    obtain ⟨g, cur, e, hg, hh, r⟩ := h.own hn
    obtain ⟨g', e', _, hlt⟩ := h.lt hn
    rw [e] at e'; cases e'
    exact ⟨g, cur, e, hg, by rw [hb.block g (by omega)]; exact hh, r⟩⟩

theorem MyRow.ints {w : World} {base : Nat} {a : Option Addr} {n c : Nat} {xs : List Int} (h : MyRow w base a n c xs) (hbig : n ≤ 4611686018427387904) (hbd : ∀ x, x ∈ xs → -9223372036854775808 ≤ x ∧ x ≤ 9223372036854775807) : Ints w a n c xs :=
  ⟨h.len, h.cap, hbig, fun hn => by obtain ⟨g, _, e, _⟩ := h.own hn; exact ⟨g, 0, e⟩, fun b o e k x hx => by
    have hk : k < n := by have := (List.getElem?_eq_some_iff.1 hx).1; have := h.len; omega
    obtain ⟨g, cur, e', hg, hh, hs, ht⟩ := h.own (by omega)
    rw [e] at e'; cases e'
    rw [Nat.zero_add, cell_of_row w b _ cur _ _ hh]
    have h3 : (cur.toList.take n)[k]? = some (.int .i64 x) := by rw [ht]; simp [hx]
    rw [List.getElem?_take_of_lt hk] at h3
    simpa using h3, hbd, h.nil⟩

/-- .. is written -/
theorem MyRow.set {w : World} {base g : Nat} {n c : Nat} {xs : List Int} (h : MyRow w base (some ⟨g, 0, none⟩) n c xs) (k : Nat) (v : Int) :
    MyRow (w.setCell ⟨g, k, none⟩ (.int .i64 v)) base (some ⟨g, 0, none⟩) n c (xs.set k v) := by
  refine ⟨by rw [List.length_set]; exact h.len, h.cap, (fun e => by cases e), fun hn => ?_⟩
  obtain ⟨g', cur, e, hg, hh, hs, ht⟩ := h.own hn
  cases e
  refine ⟨g, cur.setIfInBounds k (.int .i64 v), rfl, hg, by rw [heap_setCell_same w g k cur _ _ hh], by simpa using hs, ?_⟩
  rw [Array.toList_setIfInBounds, List.map_set, ← ht, List.take_set]

theorem MyRow.other {w : World} {base : Nat} {a : Option Addr} {n c : Nat} {xs : List Int} (h : MyRow w base a n c xs) {p : Addr} (hp : 0 < n → ∀ b o, a = some ⟨b, o, none⟩ → b ≠ p.block) (u : Value) : MyRow (w.setCell p u) base a n c xs :=
  ⟨h.len, h.cap, h.nil, fun hn => by
    obtain ⟨g, cur, e, hg, hh, r⟩ := h.own hn
    exact ⟨g, cur, e, hg, by rw [heap_setCell_other w p g u (hp hn g 0 e)]; exact hh, r⟩⟩
theorem MyRow.frozen {w : World} {base g : Nat} {n c : Nat} {xs : List Int} (h : MyRow w base (some ⟨g, 0, none⟩) n c xs) (hn : 0 < n) (k : Nat) : w.frozen? ⟨g, k, none⟩ = false := by
  obtain ⟨g', cur, e, hg, hh, r⟩ := h.own hn
  cases e
  exact frozen_of_row w g k cur _ hh
end Go.Proofs.Ytbnjeegicbffeaa
