/- Between what the code holds and the plain mathematics: a list of who has what is a matching; the first of the best. -/
import Derived.Test.YtbnjeegicbffeaaFl2
import Derived.Test.YtbnjeegicbffeaaHas
namespace Go.Proofs.Ytbnjeegicbffeaa
open Go.RowKit Sale

def slotOf (has : List Int) (i : Nat) : Option Nat := match has[i]? with
  | some h => if h = -1 then none else some h.toNat
  | none => none

theorem slot_some {has : List Int} {i r : Nat} (h : slotOf has i = some r) : ∃ x, has[i]? = some x ∧ x ≠ -1 ∧ x.toNat = r := by
  unfold slotOf at h
  cases hx : has[i]? with
  | none => rw [hx] at h; cases h
  | some x =>
    rw [hx] at h
    simp only at h
    split at h
    · cases h
    · rename_i hne; exact ⟨x, rfl, hne, by simpa using h⟩
theorem slot_of {has : List Int} {i : Nat} {x : Int} (h : has[i]? = some x) : slotOf has i = if x = -1 then none else some x.toNat := by simp [slotOf, h]

theorem isM_at {gains : List (List Int)} {has : List Int} {k i : Nat} {x : Int} (h : isM gains has k = true) (hi : i < k) (hx : has[i]? = some x) (hne : x ≠ -1) :
    0 ≤ x ∧ x < ((gains[i]?.getD []).length : Int) ∧ 0 ≤ gi gains i x.toNat ∧ x ∉ has.take i := by
  unfold isM at h
  have := List.all_eq_true.1 h i (List.mem_range.2 hi)
  rw [hx] at this
  simpa [okHas, hne, and_assoc] using this

theorem fits_of_isM {gains : List (List Int)} {n : Nat} {has : List Int} (hl : ∀ l, l ∈ gains → (l.length : Int) = (n : Int)) (h : isM gains has gains.length = true) :
    Fits (gi gains) n (List.range gains.length) (fun _ => true) (slotOf has) := by
  have aux : ∀ l l' r, l < l' → l' < gains.length → slotOf has l = some r → slotOf has l' = some r → False := by
    intro l l' r hll hl' h1 h2
    obtain ⟨x, hx, hne, e⟩ := slot_some h1
    obtain ⟨x', hx', hne', e'⟩ := slot_some h2
    have o1 := isM_at h (by omega) hx hne
    have o2 := isM_at h hl' hx' hne'
    obtain rfl : x = x' := by omega
    exact o2.2.2.2 (List.mem_iff_getElem?.2 ⟨l, by rw [List.getElem?_take_of_lt hll, hx]⟩)
  refine ⟨fun l hlm r hr => ?_, fun l hlm l' hlm' r hr hr' => ?_⟩
  · obtain ⟨x, hx, hne, rfl⟩ := slot_some hr
    have hlg := List.mem_range.1 hlm
    obtain ⟨o1, o2, o3, _⟩ := isM_at h hlg hx hne
    have : ((gains[l]?.getD []).length : Int) = n := by
      rw [List.getElem?_eq_getElem hlg]; exact hl _ (List.getElem_mem _)
    exact ⟨by omega, rfl, o3⟩
  · rcases Nat.lt_trichotomy l l' with h1 | h1 | h1
    · exact (aux l l' r h1 (List.mem_range.1 hlm') hr hr').elim
    · exact h1
    · exact (aux l' l r h1 (List.mem_range.1 hlm) hr' hr).elim

theorem isM_of_fits {gains : List (List Int)} {n : Nat} {has : List Int} (hl : ∀ l, l ∈ gains → (l.length : Int) = (n : Int)) (hlen : has.length = gains.length) (hge : ∀ x, x ∈ has → -1 ≤ x)
    (h : Fits (gi gains) n (List.range gains.length) (fun _ => true) (slotOf has)) : isM gains has gains.length = true := by
  unfold isM
  rw [List.all_eq_true]
  intro i hi
  have hig := List.mem_range.1 hi
  obtain ⟨x, hx⟩ : ∃ x, has[i]? = some x := ⟨has[i]'(by omega), by simp⟩
  rw [hx, Option.getD_some]
  by_cases hne : x = -1
  · simp [okHas, hne]
  · have hs : slotOf has i = some x.toNat := by rw [slot_of hx, if_neg hne]
    obtain ⟨h1, _, h3⟩ := h.some i hi _ hs
    have hx0 := hge x (List.mem_of_getElem? hx)
    have hlr : ((gains[i]?.getD []).length : Int) = n := by
      rw [List.getElem?_eq_getElem hig]; exact hl _ (List.getElem_mem _)
    have hnot : x ∉ has.take i := by
      intro hm
      obtain ⟨j, hj⟩ := List.mem_iff_getElem?.1 hm
      have hji : j < i := by have := (List.getElem?_eq_some_iff.1 hj).1; simp at this; omega
      rw [List.getElem?_take_of_lt hji] at hj
      have := h.inj j (List.mem_range.2 (by omega)) i hi x.toNat (by rw [slot_of hj, if_neg hne]) hs
      omega
    simp only [okHas, hlr, hnot, Bool.or_eq_true, Bool.and_eq_true, decide_eq_true_eq, List.contains_eq_mem, decide_false, Bool.not_false]
    exact .inr ⟨⟨⟨by omega, by omega⟩, h3⟩, trivial⟩

theorem mSum_total (gains : List (List Int)) (has : List Int) : ∀ k, k ≤ has.length → mSum gains has k = total (gi gains) (slotOf has) (List.range k)
  | 0, _ => rfl
  | k + 1, hk => by
    have hx : has[k]? = some (has[k]'(by omega)) := by simp
    rw [mSum_succ hx, mSum_total gains has k (by omega), List.range_succ, total_append]
    congr 1
    simp only [total, gain, slot_of hx, addHas]
    split <;> simp_all

theorem lookup_at {ls : List Nat} {ms : List (Option Nat)} (hn : ls.Nodup) : ∀ {d l : Nat} {o : Option Nat}, ls[d]? = some l → ms[d]? = some o → (ls.zip ms).lookup l = some o := by
  induction ls generalizing ms with
  | nil => intro d l o h; simp at h
  | cons a ls ih =>
    intro d l o h1 h2
    obtain ⟨ha, hn⟩ := List.nodup_cons.1 hn
    cases ms with
    | nil => simp at h2
    | cons b ms =>
      cases d with
      | zero => simp at h1 h2; subst h1; subst h2; simp
      | succ d =>
        simp at h1 h2
        have : l ≠ a := fun e => ha (e ▸ List.mem_of_getElem? h1)
        rw [List.zip_cons_cons, List.lookup_cons, show (l == a) = false by simp [this]]
        exact ih hn h1 h2

theorem firstOf_length (gains : List (List Int)) (n : Nat) (on : List Nat) : (firstOf gains n on).length = gains.length := tabN_length _ _

theorem firstOf_ge (gains : List (List Int)) (n : Nat) (on : List Nat) : ∀ x, x ∈ firstOf gains n on → -1 ≤ x := by
  intro x hx
  obtain ⟨j, hj⟩ := List.mem_iff_getElem?.1 hx
  have hjl : j < gains.length := by have := (List.getElem?_eq_some_iff.1 hj).1; rwa [firstOf_length] at this
  rw [firstOf, tabN_get _ hjl] at hj
  cases hj
  unfold hasF
  split
  · rename_i o _
    cases o with
    | none => simp [itemOf]
    | some r => simp [itemOf]
  · omega

theorem first_is {gains : List (List Int)} {n : Nat} {on : List Nat} (hp : on.Perm (List.range gains.length)) : IsFirst (gi gains) n on (slotOf (firstOf gains n on)) := by
  have hn : on.Nodup := hp.nodup_iff.2 List.nodup_range
  refine ⟨?_, hn⟩
  have hlen := firsts_length (gi gains) n on (fun _ => true)
  apply List.ext_getElem?
  intro d
  by_cases hd : d < on.length
  · have hl : on[d]? = some (on[d]) := by simp
    have hf : (firsts (gi gains) n on (fun _ => true))[d]? = some ((firsts (gi gains) n on (fun _ => true))[d]'(by omega)) := by simp
    have hlt : on[d] < gains.length := List.mem_range.1 (hp.mem_iff.1 (List.getElem_mem _))
    rw [List.getElem?_map, hl, Option.map_some, hf]
    congr 1
    have hx : (firstOf gains n on)[on[d]]? = some (itemOf ((firsts (gi gains) n on (fun _ => true))[d]'(by omega))) := by
      rw [firstOf, tabN_get _ hlt, hasF, lookup_at hn hl hf]
    rw [slot_of hx]
    cases (firsts (gi gains) n on (fun _ => true))[d]'(by omega) with
    | none => simp [itemOf]
    | some r =>
      have : ((r : Int) = -1) = False := by simp
      simp [itemOf, this]
  · rw [List.getElem?_eq_none (by simp; omega), List.getElem?_eq_none (by omega)]

/-- it is a matching, and gains the most -/
theorem first_best {gains : List (List Int)} {n : Nat} {on : List Nat} (hl : ∀ l, l ∈ gains → (l.length : Int) = (n : Int)) (hp : on.Perm (List.range gains.length)) :
    gainsOf gains (firstOf gains n on) = (bestVal gains n, true) := by
  have hF := first_is (n := n) hp
  have h1 := isM_of_fits hl (firstOf_length gains n on) (firstOf_ge gains n on) (hF.fits.perm hp)
  unfold gainsOf
  rw [if_pos h1, mSum_total _ _ _ (by rw [firstOf_length]; exact Nat.le_refl _), bestVal, ← opt_perm hF.nodup hp, ← hF.best, total_perm hp]
end Go.Proofs.Ytbnjeegicbffeaa
