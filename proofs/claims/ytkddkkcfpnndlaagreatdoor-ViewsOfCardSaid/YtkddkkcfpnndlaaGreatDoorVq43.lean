/- Lists of lists that a call has made, each in a block of its own from base on; the reference's Best, nothing, without. -/
import Derived.Test.YtkddkkcfpnndlaaGreatDoorVq07
import Derived.Test.YtkddkkcfpnndlaaGreatDoorVq21
import Derived.Test.YtkddkkcfpnndlaaGreatDoorVq01
import Derived.Test.YtkddkkcfpnndlaaGreatDoorVq14
import Derived.BigRegion
import Derived.StillTailTactics
namespace Go.Proofs.YtkddkkcfpnndlaaGreatDoor
open Go.RowKit Sale

/-- lists in blocks from base on; none lies where the list of them lies -/
def ORows (w : World) (base : Nat) (v : Value) (xss : List (List Int)) : Prop :=
  ∃ vals : List Value, w.ownsRow base 25 1 v vals.length vals ∧ vals.length = xss.length ∧
    ∀ (i : Nat) (xs : List Int), xss[i]? = some xs → ∃ (b n c : Nat), vals[i]? = some (Value.slice (some ⟨b, 0, none⟩) n c) ∧ TabI w b xs ∧ xs.length = n ∧ n ≤ c ∧ (∀ x, x ∈ xs → -9223372036854775808 ≤ x ∧ x ≤ 9223372036854775807) ∧ base ≤ b ∧ v.ownBlock ≠ some b
theorem ORows.nil (w : World) (base : Nat) : ORows w base (.slice none 0 0) [] := ⟨[], World.ownsRow_nil _ _ _ _, rfl, fun i xs h => by simp at h⟩
theorem ORows.own {w : World} {base : Nat} {v : Value} {xss : List (List Int)} (h : ORows w base v xss) (hbig : ∀ xs, xs ∈ xss → xs.length ≤ 4611686018427387904) : OwnRows w base v xss := by
  obtain ⟨vals, h1, h2, h3⟩ := h
  refine ⟨vals, h1, h2, fun i xs hi => ?_⟩
  obtain ⟨b, n, c, e, ht, hl, hc, hbd, hb, hne⟩ := h3 i xs hi
  have := ht.ints (c := c) (by omega) (hbig xs (List.mem_of_getElem? hi)) hbd
  rw [hl] at this
  exact ⟨_, n, c, e, this, fun _ b' o' e' => by cases e'; exact hne⟩
theorem ORows.below {w w' : World} {base B : Nat} {v : Value} {xss : List (List Int)} (h : ORows w base v xss) (hb : Below B w w') (hB : w.heap.size ≤ B) : ORows w' base v xss := by
  obtain ⟨vals, ⟨h1, h2⟩, h3, h4⟩ := h
  refine ⟨vals, ⟨h1, ?_⟩, h3, fun i xs hi => ?_⟩
  · rcases h2 with h2 | ⟨g, cap, cur, hv, hg, hh, r⟩
    · exact .inl h2
    · exact .inr ⟨g, cap, cur, hv, hg, by rw [hb.block g (by have := (Array.getElem?_eq_some_iff.1 hh).1; omega)]; exact hh, r⟩
  · obtain ⟨b, n, c, e1, e2, r⟩ := h4 i xs hi
    exact ⟨b, n, c, e1, Tab.below e2 hb (by have := Tab.lt e2; omega), r⟩
theorem ORows.lt {w : World} {base : Nat} {v : Value} {xss : List (List Int)} (h : ORows w base v xss) : ∀ k, v.ownBlock = some k → base ≤ k ∧ k < w.heap.size := by
  obtain ⟨vals, h1, _⟩ := h
  exact World.ownsRow.lt h1
theorem ORows.under {w : World} {base : Nat} {v : Value} {xss : List (List Int)} (h : ORows w base v xss) {a : Addr} (ha : a.block < base) (u : Value) : ORows (w.setCell a u) base v xss := by
  obtain ⟨vals, ⟨h1, h2⟩, h3, h4⟩ := h
  refine ⟨vals, ⟨h1, ?_⟩, h3, fun i xs hi => ?_⟩
  · rcases h2 with h2 | ⟨g, cap, cur, hv, hg, hh, r⟩
    · exact .inl h2
    · exact .inr ⟨g, cap, cur, hv, hg, by rw [heap_setCell_other w a g u (by omega)]; exact hh, r⟩
  · obtain ⟨b, n, c, e1, e2, e3, e4, e5, e6, e7⟩ := h4 i xs hi
    exact ⟨b, n, c, e1, Tab.other e2 (by omega) _, e3, e4, e5, e6, e7⟩
theorem ORows.lower {w : World} {base base' : Nat} {v : Value} {xss : List (List Int)} (h : ORows w base v xss) (hb : base' ≤ base) : ORows w base' v xss := by
  obtain ⟨vals, ⟨h1, h2⟩, h3, h4⟩ := h
  refine ⟨vals, ⟨h1, ?_⟩, h3, fun i xs hi => ?_⟩
  · rcases h2 with h2 | ⟨g, cap, cur, hv, hg, r⟩
    · exact .inl h2
    · exact .inr ⟨g, cap, cur, hv, by omega, r⟩
  · obtain ⟨b, n, c, e1, e2, e3, e4, e5, e6, e7⟩ := h4 i xs hi
    exact ⟨b, n, c, e1, e2, e3, e4, e5, by omega, e7⟩
theorem ORows.form {w : World} {base : Nat} {v : Value} {xss : List (List Int)} (h : ORows w base v xss) (hl : 0 < xss.length) : ∃ g c, v = .slice (some ⟨g, 0, none⟩) xss.length c ∧ base ≤ g ∧ g < w.heap.size ∧ xss.length ≤ c := by
  obtain ⟨vals, ⟨h1, h2⟩, h3, _⟩ := h
  rcases h2 with ⟨_, h0⟩ | ⟨g, cap, cur, hv, hb, hg, hn, _⟩
  · omega
  · rw [h3] at hv; exact ⟨g, cap, hv, hb, (Array.getElem?_eq_some_iff.1 hg).1, by omega⟩
theorem ORows.cell {w : World} {base g n c : Nat} {xss : List (List Int)} (h : ORows w base (.slice (some ⟨g, 0, none⟩) n c) xss) {k : Nat} {xs : List Int} (hk : xss[k]? = some xs) : ∃ b m d, w.cell? ⟨g, k, none⟩ = some (.slice (some ⟨b, 0, none⟩) m d) ∧ w.frozen? ⟨g, k, none⟩ = false ∧ TabI w b xs ∧ xs.length = m ∧ m ≤ d ∧ (∀ x, x ∈ xs → -9223372036854775808 ≤ x ∧ x ≤ 9223372036854775807) ∧ base ≤ b ∧ b ≠ g := by
  obtain ⟨vals, h1, h2, h3⟩ := h
  obtain ⟨b, m, d, e1, e2, e3, e4, e5, e6, e7⟩ := h3 k xs hk
  have hn : n = vals.length := by
    rcases h1.2 with ⟨e, _⟩ | ⟨_, _, _, e, _⟩
    · cases e
    · exact (Value.slice.inj e).2.1
  subst hn
  have hkl := (List.getElem?_eq_some_iff.1 e1).1
  exact ⟨b, m, d, by rw [World.ownsRow.cellAt h1 k (by omega)]; exact e1, World.ownsRow.frozenAt h1 k, e2, e3, e4, e5, e6, fun e => e7 (by rw [e]; rfl)⟩
/-- another list is put in -/
theorem ORows.put {w : World} {base g n c : Nat} {xss : List (List Int)} (h : ORows w base (.slice (some ⟨g, 0, none⟩) n c) xss) {k b m d : Nat} {ys : List Int} (ht : TabI w b ys) (hl : ys.length = m) (hc : m ≤ d) (hbd : ∀ x, x ∈ ys → -9223372036854775808 ≤ x ∧ x ≤ 9223372036854775807) (hb : base ≤ b) (hne : b ≠ g) :
    ORows (w.setCell ⟨g, k, none⟩ (.slice (some ⟨b, 0, none⟩) m d)) base (.slice (some ⟨g, 0, none⟩) n c) (xss.set k ys) := by
  obtain ⟨vals, h1, h2, h3⟩ := h
  have hn : n = vals.length := by
    rcases h1.2 with ⟨e, _⟩ | ⟨_, _, _, e, _⟩
    · cases e
    · exact (Value.slice.inj e).2.1
  subst hn
  have hst := (World.ownsRow.stored h1 k (.slice (some ⟨b, 0, none⟩) m d)).1
  refine ⟨vals.set k (.slice (some ⟨b, 0, none⟩) m d), by rw [List.length_set]; exact hst, by simp [h2], fun i xs hi => ?_⟩
  rw [List.getElem?_set] at hi
  by_cases e : k = i
  · subst e
    rw [if_pos rfl] at hi
    split at hi
    · cases hi
      exact ⟨b, m, d, by rw [List.getElem?_set, if_pos rfl, if_pos (by omega)], Tab.other ht hne _, hl, hc, hbd, hb, fun e => hne (by injection e with e; exact e.symm)⟩
    · cases hi
  · rw [if_neg e] at hi
    obtain ⟨b', m', d', e1, e2, e3, e4, e5, e6, e7⟩ := h3 i xs hi
    exact ⟨b', m', d', by rw [List.getElem?_set, if_neg e]; exact e1, Tab.other e2 (fun e => e7 (by rw [e]; rfl)) _, e3, e4, e5, e6, e7⟩
end Go.Proofs.YtkddkkcfpnndlaaGreatDoor
