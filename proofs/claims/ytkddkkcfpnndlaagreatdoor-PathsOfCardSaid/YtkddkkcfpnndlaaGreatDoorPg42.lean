/- Walks: how far a set may rise: what its closures say. -/
import Derived.Test.YtkddkkcfpnndlaaGreatDoorPg26
import Derived.Test.YtkddkkcfpnndlaaGreatDoorPg29
import Derived.Test.YtkddkkcfpnndlaaGreatDoorPg37
import Derived.Test.YtkddkkcfpnndlaaGreatDoorPg35
import Derived.Test.YtkddkkcfpnndlaaGreatDoorPg20
import Derived.Test.YtkddkkcfpnndlaaGreatDoorPg19
import Derived.Test.YtkddkkcfpnndlaaGreatDoorPg10
import Derived.BigRegion
import Derived.Deep.MidRow
import Derived.Laws.EntriesVeiled
namespace Go.Proofs.YtkddkkcfpnndlaaGreatDoor
open Go.RowKit

/-! ### how far -/
def gnOf (bids : List (List Int)) (q : List Int) (i k : Nat) : Int := (bids.getD i []).getD k 0 - q.getD k 0
/-- what keeps one that wants nothing else: what it has, and what it has more than by others -/
def farRow (bids : List (List Int)) (q : List Int) (wants : List (List Nat)) (l : List Nat) (i : Nat) : List Int :=
  if ((wants.getD i []).any fun k => !l.contains k) then [] else
    gnOf bids q i ((wants.getD i []).getD 0 0) :: ((List.range q.length).filter fun k => !l.contains k).map fun k => gnOf bids q i ((wants.getD i []).getD 0 0) - gnOf bids q i k
def farAll (bids : List (List Int)) (q : List Int) (wants : List (List Nat)) (l mu : List Nat) : List Int := mu.flatMap (farRow bids q wants l)
/-- what far needs of a state -/
structure FarOk (m : Mkt) (q : List Int) (wants : List (List Nat)) (mu : List Nat) : Prop where
  q8 : q.length ≤ 8
  mu8 : mu.length ≤ 8
  lt : ∀ i, i ∈ mu → i < m.bids.length
  wl : wants.length = m.bids.length
  row : ∀ i, i ∈ mu → (m.bids.getD i []).length = q.length ∧ ∀ x, x ∈ m.bids.getD i [] → 0 ≤ x ∧ x ≤ 1000000
  pr : ∀ x, x ∈ q → 0 ≤ x ∧ x ≤ 2000000
  ne : ∀ i, i ∈ mu → wants.getD i [] ≠ []
  want : ∀ i, i ∈ mu → ∀ k, k ∈ wants.getD i [] → k < q.length
theorem FarOk.gn {m : Mkt} {q : List Int} {wants : List (List Nat)} {mu : List Nat} (h : FarOk m q wants mu) {i k : Nat} (hi : i ∈ mu) (hk : k < q.length) :
    ∃ bid x y, m.bids[i]? = some bid ∧ bid[k]? = some x ∧ q[k]? = some y ∧ (0 ≤ x ∧ x ≤ 1000000) ∧ (0 ≤ y ∧ y ≤ 2000000) ∧ gnOf m.bids q i k = x - y := by
  have h1 := h.lt i hi
  have hb : m.bids[i]? = some (m.bids[i]) := List.getElem?_eq_getElem h1
  have hg : m.bids.getD i [] = m.bids[i] := by rw [List.getD_eq_getElem?_getD, hb]; rfl
  obtain ⟨h2, h3⟩ := h.row i hi
  rw [hg] at h2 h3
  have hx : (m.bids[i])[k]? = some ((m.bids[i])[k]) := List.getElem?_eq_getElem (by omega)
  have hy : q[k]? = some (q[k]) := List.getElem?_eq_getElem hk
  refine ⟨_, _, _, hb, hx, hy, h3 _ (List.mem_of_getElem? hx), h.pr _ (List.mem_of_getElem? hy), ?_⟩
  unfold gnOf
  rw [hg, List.getD_eq_getElem?_getD, hx, List.getD_eq_getElem?_getD, hy]; rfl
end Go.Proofs.YtkddkkcfpnndlaaGreatDoor
