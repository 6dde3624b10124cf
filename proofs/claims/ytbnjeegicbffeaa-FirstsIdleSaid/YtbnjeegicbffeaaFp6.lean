/- FirstsIdle in plain words: an item that nobody gains by, a bidder that gains by nothing. -/
import Derived.Test.YtbnjeegicbffeaaFp5
namespace Go.Proofs.Ytbnjeegicbffeaa
open Go.RowKit Sale

def idleG (gains : List (List Int)) (n : Nat) : List (List Int) := gains.map (· ++ [-1]) ++ [List.replicate (n + 1) (-1)]
theorem idleG_length (gains : List (List Int)) (n : Nat) : (idleG gains n).length = gains.length + 1 := by simp [idleG]

theorem gi_idle {gains : List (List Int)} {n i : Nat} (hl : ∀ l, l ∈ gains → (l.length : Int) = (n : Int)) (hi : i < gains.length) : (∀ r, r < n → gi (idleG gains n) i r = gi gains i r) ∧ gi (idleG gains n) i n < 0 := by
  have hlen := hl _ (List.getElem_mem hi)
  have hg : gains[i]? = some gains[i] := by simp
  have h1 : (idleG gains n)[i]? = some (gains[i] ++ [-1]) := by
    unfold idleG
    rw [List.getElem?_append_left (by simpa using hi), List.getElem?_map, hg]; rfl
  constructor
  · intro r hr
    have hx : gains[i][r]? = some (gains[i][r]'(by omega)) := by simp
    rw [gi_at hg hx, gi_at h1 (by rw [List.getElem?_append_left (by omega)]; exact hx)]
  · rw [gi_at h1 (x := -1) (by rw [List.getElem?_append_right (by omega), show n - gains[i].length = 0 by omega]; rfl)]
    omega
theorem gi_idler {gains : List (List Int)} {n : Nat} (r : Nat) (hr : r < n + 1) : gi (idleG gains n) gains.length r < 0 := by
  have h1 : (idleG gains n)[gains.length]? = some (List.replicate (n + 1) (-1)) := by
    unfold idleG
    rw [List.getElem?_append_right (by simp)]; simp
  rw [gi_at h1 (x := -1) (by simp [hr])]
  omega

theorem firstOf_idle {gains : List (List Int)} {n : Nat} {on : List Nat} (hl : ∀ l, l ∈ gains → (l.length : Int) = (n : Int)) (hp : on.Perm (List.range gains.length)) (k : Nat) :
    (on.take k ++ gains.length :: on.drop k).Perm (List.range (idleG gains n).length) ∧ firstOf (idleG gains n) (n + 1) (on.take k ++ gains.length :: on.drop k) = firstOf gains n on ++ [-1] := by
  have hp' : (on.take k ++ gains.length :: on.drop k).Perm (List.range (idleG gains n).length) := by
    rw [idleG_length, List.range_succ]
    refine List.perm_middle.trans ?_
    rw [List.take_append_drop]
    exact (List.Perm.cons _ hp).trans (List.perm_append_singleton _ _).symm
  have hF := first_is (n := n) hp
  have hF' := first_is (n := n + 1) hp'
  have hni : gains.length ∉ on := fun h => by have := List.mem_range.1 (hp.mem_iff.1 h); omega
  have hit := firsts_item (g := gi gains) (g' := gi (idleG gains n)) (n := n) on (fun _ => true) fun l h => gi_idle hl (List.mem_range.1 (hp.mem_iff.1 h))
  have hid := firsts_idle (g := gi (idleG gains n)) (n := n + 1) (i := gains.length) (fun r hr => gi_idler r hr) (on.take k) (on.drop k) (fun _ => true) (slotOf (firstOf gains n on)) (fun h => hni (List.mem_of_mem_take h)) (fun h => hni (List.mem_of_mem_drop h)) (by
    rw [List.take_append_drop, hit]; exact hF.eq)
  have hI : IsFirst (gi (idleG gains n)) (n + 1) (on.take k ++ gains.length :: on.drop k) (upd (slotOf (firstOf gains n on)) gains.length none) := ⟨hid, hF'.nodup⟩
  have hsame := hF'.same hI
  refine ⟨hp', ?_⟩
  symm
  refine firstOf_ext (by rw [List.length_append, firstOf_length, idleG_length]; rfl) (fun x hx => ?_) fun i hi => ?_
  · rcases List.mem_append.1 hx with h | h
    · exact firstOf_ge gains n on x h
    · simp at h; omega
  · rw [hsame i (hp'.mem_iff.2 (List.mem_range.2 hi))]
    rw [idleG_length] at hi
    by_cases e : i = gains.length
    · subst e
      rw [upd_same, slot_of (x := -1) (by rw [List.getElem?_append_right (by rw [firstOf_length]; omega), firstOf_length]; simp)]
      rfl
    · rw [upd_other e]
      unfold slotOf
      rw [List.getElem?_append_left (by rw [firstOf_length]; omega)]
end Go.Proofs.Ytbnjeegicbffeaa
