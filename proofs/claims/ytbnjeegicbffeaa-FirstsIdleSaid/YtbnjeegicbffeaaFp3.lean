/- The first of the best, as the laws ask it: an item that is left; other names; gains as often as great; what is idle. -/
import Derived.Test.YtbnjeegicbffeaaFp1
import Derived.Test.YtbnjeegicbffeaaMoves2
namespace Go.Proofs.Ytbnjeegicbffeaa
open Go.RowKit Sale

theorem left_none {gains : List (List Int)} {n : Nat} {on : List Nat} (hp : on.Perm (List.range gains.length)) {i k : Nat} (hi : i < gains.length) (hk : k < n) (hfree : (k : Int) ∉ firstOf gains n on) (hx : (firstOf gains n on)[i]? = some (-1)) : gi gains i k < 0 :=
  (first_is (n := n) hp).none_left (hp.mem_iff.2 (List.mem_range.2 hi)) hk (fun x _ => free_slot hfree (firstOf_ge gains n on) x) (by rw [slot_of hx]; rfl)

theorem left_some {gains : List (List Int)} {n : Nat} {on : List Nat} (hp : on.Perm (List.range gains.length)) {i k : Nat} {x : Int} (hi : i < gains.length) (hk : k < n) (hfree : (k : Int) ∉ firstOf gains n on) (hx : (firstOf gains n on)[i]? = some x) (hne : x ≠ -1) :
    gi gains i k ≤ gi gains i x.toNat ∧ 0 ≤ x ∧ x < (n : Int) := by
  have hF := first_is (n := n) hp
  have hs : slotOf (firstOf gains n on) i = some x.toNat := by rw [slot_of hx, if_neg hne]
  have hm := hp.mem_iff.2 (List.mem_range.2 hi)
  have h1 := hF.fits.some i hm _ hs
  have h2 := firstOf_ge gains n on x (List.mem_of_getElem? hx)
  exact ⟨hF.no_more hm hk (fun y _ => free_slot hfree (firstOf_ge gains n on) y) hs, by omega, by omega⟩

/-! ### gains as often as great -/
def timesG (c : Int) (gains : List (List Int)) : List (List Int) := gains.map fun l => l.map fun x => c * x

theorem gi_times {c : Int} {gains : List (List Int)} {n i k : Nat} (hl : ∀ l, l ∈ gains → (l.length : Int) = (n : Int)) (hi : i < gains.length) (hk : k < n) : gi (timesG c gains) i k = c * gi gains i k := by
  have hlen := hl _ (List.getElem_mem hi)
  have hg : gains[i]? = some gains[i] := by simp
  have hx : gains[i][k]? = some (gains[i][k]'(by omega)) := by simp
  rw [gi_at hg hx]
  exact gi_at (l := gains[i].map fun x => c * x) (by rw [timesG, List.getElem?_map, hg]; rfl) (by rw [List.getElem?_map, hx]; rfl)

theorem firstOf_times {c : Int} (hc : 0 < c) {gains : List (List Int)} {n : Nat} {on : List Nat} (hl : ∀ l, l ∈ gains → (l.length : Int) = (n : Int)) (hp : on.Perm (List.range gains.length)) : firstOf (timesG c gains) n on = firstOf gains n on := by
  unfold firstOf
  rw [firsts_times (g := gi gains) hc on _ fun l hlo r hr => gi_times hl (List.mem_range.1 (hp.mem_iff.1 hlo)) hr, show (timesG c gains).length = gains.length by simp [timesG]]
end Go.Proofs.Ytbnjeegicbffeaa
