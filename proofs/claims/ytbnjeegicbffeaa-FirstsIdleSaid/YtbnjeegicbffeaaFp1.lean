/- Between what the code holds and the plain mathematics: a list of who has what is a matching; the first of the best. -/
import Derived.Test.YtbnjeegicbffeaaFl2
import Derived.Test.YtbnjeegicbffeaaFp0
namespace Go.Proofs.Ytbnjeegicbffeaa
open Go.RowKit Sale

theorem isM_at {gains : List (List Int)} {has : List Int} {k i : Nat} {x : Int} (h : isM gains has k = true) (hi : i < k) (hx : has[i]? = some x) (hne : x ≠ -1) :
    0 ≤ x ∧ x < ((gains[i]?.getD []).length : Int) ∧ 0 ≤ gi gains i x.toNat ∧ x ∉ has.take i := by
  unfold isM at h
  have := List.all_eq_true.1 h i (List.mem_range.2 hi)
  rw [hx] at this
  simpa [okHas, hne, and_assoc] using this

theorem fits_of_isM {gains : List (List Int)} {n : Nat} {has : List Int} (hl : ∀ l, l ∈ gains → (l.length : Int) = (n : Int)) (h : isM gains has gains.length = true) :
    Fits (gi gains) n (List.range gains.length) (fun _ => true) (slotOf has) := by
  have aux : ∀ l l' r, l < l' → l' < gains.length → slotOf has l = some r → slotOf has l' = some r → False := by
    intro l l' r hll hl' h1 h2
    obtain ⟨x, hx, hne, e⟩ := slot_some h1
    obtain ⟨x', hx', hne', e'⟩ := slot_some h2
    have o1 := isM_at h (by omega) hx hne
    have o2 := isM_at h hl' hx' hne'
    obtain rfl : x = x' := by omega
    exact o2.2.2.2 (List.mem_iff_getElem?.2 ⟨l, by rw [List.getElem?_take_of_lt hll, hx]⟩)
  refine ⟨fun l hlm r hr => ?_, fun l hlm l' hlm' r hr hr' => ?_⟩
  · obtain ⟨x, hx, hne, rfl⟩ := slot_some hr
    have hlg := List.mem_range.1 hlm
    obtain ⟨o1, o2, o3, _⟩ := isM_at h hlg hx hne
    have : ((gains[l]?.getD []).length : Int) = n := by
      rw [List.getElem?_eq_getElem hlg]; exact hl _ (List.getElem_mem _)
    exact ⟨by omega, rfl, o3⟩
  · rcases Nat.lt_trichotomy l l' with h1 | h1 | h1
    · exact (aux l l' r h1 (List.mem_range.1 hlm') hr hr').elim
    · exact h1
    · exact (aux l' l r h1 (List.mem_range.1 hlm) hr' hr).elim

theorem isM_of_fits {gains : List (List Int)} {n : Nat} {has : List Int} (hl : ∀ l, l ∈ gains → (l.length : Int) = (n : Int)) (hlen : has.length = gains.length) (hge : ∀ x, x ∈ has → -1 ≤ x)
    (h : Fits (gi gains) n (List.range gains.length) (fun _ => true) (slotOf has)) : isM gains has gains.length = true := by
  unfold isM
  rw [List.all_eq_true]
  intro i hi
  have hig := List.mem_range.1 hi
  obtain ⟨x, hx⟩ : ∃ x, has[i]? = some x := ⟨has[i]'(by omega), by simp⟩
  rw [hx, Option.getD_some]
  by_cases hne : x = -1
  · simp [okHas, hne]
  · have hs : slotOf has i = some x.toNat := by rw [slot_of hx, if_neg hne]
    obtain ⟨h1, _, h3⟩ := h.some i hi _ hs
    have hx0 := hge x (List.mem_of_getElem? hx)
    have hlr : ((gains[i]?.getD []).length : Int) = n := by
      rw [List.getElem?_eq_getElem hig]; exact hl _ (List.getElem_mem _)
    have hnot : x ∉ has.take i := by
      intro hm
      obtain ⟨j, hj⟩ := List.mem_iff_getElem?.1 hm
      have hji : j < i := by have := (List.getElem?_eq_some_iff.1 hj).1; simp at this; omega
      rw [List.getElem?_take_of_lt hji] at hj
      have := h.inj j (List.mem_range.2 (by omega)) i hi x.toNat (by rw [slot_of hj, if_neg hne]) hs
      omega
    simp only [okHas, hlr, hnot, Bool.or_eq_true, Bool.and_eq_true, decide_eq_true_eq, List.contains_eq_mem, decide_false, Bool.not_false]
    exact .inr ⟨⟨⟨by omega, by omega⟩, h3⟩, trivial⟩

theorem mSum_total (gains : List (List Int)) (has : List Int) : ∀ k, k ≤ has.length → mSum gains has k = total (gi gains) (slotOf has) (List.range k)
  | 0, _ => rfl
  | k + 1, hk => by
    have hx : has[k]? = some (has[k]'(by omega)) := by simp
    rw [mSum_succ hx, mSum_total gains has k (by omega), List.range_succ, total_append]
    congr 1
    simp only [total, gain, slot_of hx, addHas]
    split <;> simp_all

/-- it is a matching, and gains the most -/
theorem first_best {gains : List (List Int)} {n : Nat} {on : List Nat} (hl : ∀ l, l ∈ gains → (l.length : Int) = (n : Int)) (hp : on.Perm (List.range gains.length)) :
    gainsOf gains (firstOf gains n on) = (bestVal gains n, true) := by
  have hF := first_is (n := n) hp
  have h1 := isM_of_fits hl (firstOf_length gains n on) (firstOf_ge gains n on) (hF.fits.perm hp)
  unfold gainsOf
  rw [if_pos h1, mSum_total _ _ _ (by rw [firstOf_length]; exact Nat.le_refl _), bestVal, ← opt_perm hF.nodup hp, ← hF.best, total_perm hp]
end Go.Proofs.Ytbnjeegicbffeaa
