/- Plain mathematics: one step of the way gone. -/
import Derived.Test.YtbnjeegicbffeaaHall
namespace Way
open Sale (upd upd_same upd_other)

/-- where one stands on the way back -/
structure At (has : Nat → Option Nat) (s : St) (k i j : Nat) (H : Nat → Option Nat) : Prop where
  came : s.came k = i + 1
  idx : s.ws[j]? = some i
  same : ∀ j' x, j' ≤ j → s.ws[j']? = some x → H x = has x

theorem At.step {nb : Nat → List Nat} {has : Nat → Option Nat} {start : Nat} {s : St} {k i j : Nat} {H : Nat → Option Nat} (h : At has s k i j H) (hI : Inv nb has start s) (h0s : has start = none) :
    H i = has i ∧ (has i = none ∨ ∃ k2 i2 j2, has i = some k2 ∧ j2 < j ∧ At has s k2 i2 j2 (upd H i (some k))) := by
  refine ⟨h.same j i (Nat.le_refl _) h.idx, ?_⟩
  cases hi : has i with
  | none => exact .inl rfl
  | some k2 =>
    right
    cases j with
    | zero =>
      have h0 := h.idx
      rw [hI.head] at h0
      cases h0
      rw [h0s] at hi; cases hi
    | succ j =>
      obtain ⟨k3, i2, j2, a1, a2, a3, a4⟩ := hI.rest j i h.idx
      rw [hi] at a1
      cases a1
      refine ⟨k2, i2, j2, rfl, by omega, a2, a4, fun j' x hj' hx => ?_⟩
      have hxi : x ≠ i := by
        intro e
        subst e
        have := (List.getElem?_inj (List.getElem?_eq_some_iff.1 hx).1 hI.nodup).1 (hx.trans h.idx.symm)
        omega
      rw [upd_other hxi]
      exact h.same j' x (by omega) hx

end Way
