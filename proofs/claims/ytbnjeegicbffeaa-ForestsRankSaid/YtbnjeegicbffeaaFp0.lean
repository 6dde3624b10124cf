/- Between what First answers and the plain mathematics: a list of who has what as a function; the first of the best. -/
import Derived.Test.YtbnjeegicbffeaaFs2
import Derived.Test.YtbnjeegicbffeaaPln
namespace Go.Proofs.Ytbnjeegicbffeaa
open Go.RowKit Sale

def slotOf (has : List Int) (i : Nat) : Option Nat := match has[i]? with
  | some h => if h = -1 then none else some h.toNat
  | none => none

theorem slot_some {has : List Int} {i r : Nat} (h : slotOf has i = some r) : ∃ x, has[i]? = some x ∧ x ≠ -1 ∧ x.toNat = r := by
  unfold slotOf at h
  cases hx : has[i]? with
  | none => rw [hx] at h; cases h
  | some x =>
    rw [hx] at h
    simp only at h
    split at h
    · cases h
    · rename_i hne; exact ⟨x, rfl, hne, by simpa using h⟩
theorem slot_of {has : List Int} {i : Nat} {x : Int} (h : has[i]? = some x) : slotOf has i = if x = -1 then none else some x.toNat := by simp [slotOf, h]

theorem lookup_at {ls : List Nat} {ms : List (Option Nat)} (hn : ls.Nodup) : ∀ {d l : Nat} {o : Option Nat}, ls[d]? = some l → ms[d]? = some o → (ls.zip ms).lookup l = some o := by
  induction ls generalizing ms with
  | nil => intro d l o h; simp at h
  | cons a ls ih =>
    intro d l o h1 h2
    obtain ⟨ha, hn⟩ := List.nodup_cons.1 hn
    cases ms with
    | nil => simp at h2
    | cons b ms =>
      cases d with
      | zero => simp at h1 h2; subst h1; subst h2; simp
      | succ d =>
        simp at h1 h2
        have : l ≠ a := fun e => ha (e ▸ List.mem_of_getElem? h1)
        rw [List.zip_cons_cons, List.lookup_cons, show (l == a) = false by simp [this]]
        exact ih hn h1 h2

theorem firstOf_length (gains : List (List Int)) (n : Nat) (on : List Nat) : (firstOf gains n on).length = gains.length := tabN_length _ _

theorem firstOf_ge (gains : List (List Int)) (n : Nat) (on : List Nat) : ∀ x, x ∈ firstOf gains n on → -1 ≤ x := by
  intro x hx
  obtain ⟨j, hj⟩ := List.mem_iff_getElem?.1 hx
  have hjl : j < gains.length := by have := (List.getElem?_eq_some_iff.1 hj).1; rwa [firstOf_length] at this
  rw [firstOf, tabN_get _ hjl] at hj
  cases hj
  unfold hasF
  split
  · rename_i o _
    cases o with
    | none => simp [itemOf]
    | some r => simp [itemOf]
  · omega

theorem first_is {gains : List (List Int)} {n : Nat} {on : List Nat} (hp : on.Perm (List.range gains.length)) : IsFirst (gi gains) n on (slotOf (firstOf gains n on)) := by
  have hn : on.Nodup := hp.nodup_iff.2 List.nodup_range
  refine ⟨?_, hn⟩
  have hlen := firsts_length (gi gains) n on (fun _ => true)
  apply List.ext_getElem?
  intro d
  by_cases hd : d < on.length
  · have hl : on[d]? = some (on[d]) := by simp
    have hf : (firsts (gi gains) n on (fun _ => true))[d]? = some ((firsts (gi gains) n on (fun _ => true))[d]'(by omega)) := by simp
    have hlt : on[d] < gains.length := List.mem_range.1 (hp.mem_iff.1 (List.getElem_mem _))
    rw [List.getElem?_map, hl, Option.map_some, hf]
    congr 1
    have hx : (firstOf gains n on)[on[d]]? = some (itemOf ((firsts (gi gains) n on (fun _ => true))[d]'(by omega))) := by
      rw [firstOf, tabN_get _ hlt, hasF, lookup_at hn hl hf]
    rw [slot_of hx]
    cases (firsts (gi gains) n on (fun _ => true))[d]'(by omega) with
    | none => simp [itemOf]
    | some r =>
      have : ((r : Int) = -1) = False := by simp
      simp [itemOf, this]
  · rw [List.getElem?_eq_none (by simp; omega), List.getElem?_eq_none (by omega)]

theorem free_slot {has : List Int} {k : Nat} (h : (k : Int) ∉ has) (hge : ∀ x, x ∈ has → -1 ≤ x) (i : Nat) : slotOf has i ≠ some k := by
  intro e
  obtain ⟨x, hx, hne, ek⟩ := slot_some e
  have hm := List.mem_of_getElem? hx
  have := hge x hm
  exact h ((by omega : x = (k : Int)) ▸ hm)

/-- two lists of who has what that are the same as functions -/
theorem firstOf_ext {gains : List (List Int)} {n : Nat} {on : List Nat} {has : List Int} (hl : has.length = gains.length) (hge : ∀ x, x ∈ has → -1 ≤ x) (h : ∀ i, i < gains.length → slotOf has i = slotOf (firstOf gains n on) i) : has = firstOf gains n on := by
  apply List.ext_getElem?
  intro i
  by_cases hi : i < gains.length
  · have hx : has[i]? = some (has[i]'(by omega)) := by simp
    have hy : (firstOf gains n on)[i]? = some ((firstOf gains n on)[i]'(by rw [firstOf_length]; omega)) := by simp
    have h1 := hge _ (List.mem_of_getElem? hx)
    have h2 := firstOf_ge gains n on _ (List.mem_of_getElem? hy)
    have := h i hi
    rw [slot_of hx, slot_of hy] at this
    rw [hx, hy]
    congr 1
    split at this <;> split at this
    · omega
    · cases this
    · cases this
    · have := Option.some.inj this; omega
  · rw [List.getElem?_eq_none (by omega), List.getElem?_eq_none (by rw [firstOf_length]; omega)]

theorem isOrd_of_perm {on : List Nat} {m : Nat} (h : on.Perm (List.range m)) : isOrd (on.map fun k : Nat => (k : Int)) m = true := by
  unfold isOrd
  rw [List.isPerm_iff]
  exact h.map _

theorem wcheck_of {gains : List (List Int)} {n : Nat} (h1 : 1 ≤ n) (h2 : n ≤ 8) (h3 : gains.length ≤ 8) (h4 : ∀ l, l ∈ gains → (l.length : Int) = n) (h5 : ∀ l, l ∈ gains → ∀ x, x ∈ l → -1000000 ≤ x ∧ x ≤ 1000000) : wcheck gains n = true := by
  simp only [wcheck, Bool.and_eq_true, decide_eq_true_eq, Bool.not_eq_true', List.any_eq_false, badGains, badGain, Bool.or_eq_true, decide_eq_false_iff_not, List.any_eq_true, not_or]
  refine ⟨⟨⟨by omega, by omega⟩, h3⟩, fun l hl => ⟨by simp [h4 l hl], fun ⟨x, hx, hh⟩ => ?_⟩⟩
  have := h5 l hl x hx
  omega
end Go.Proofs.Ytbnjeegicbffeaa
