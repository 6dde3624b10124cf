/- Walks: firsts.First. Between what First answers and the plain mathematics: a list of who has what as a function; the first of the best. -/
import Derived.Test.YtkddkkcfpnndlaaGreatDoorPg14
import Derived.Test.YtkddkkcfpnndlaaGreatDoorPg12
import Derived.Test.YtkddkkcfpnndlaaGreatDoorPg09
import Derived.Test.YtkddkkcfpnndlaaGreatDoorPg04
import Derived.BigRegion
namespace Go.Proofs.YtkddkkcfpnndlaaGreatDoor
open Go.RowKit Sale

/-- what each bidder has, by their numbers -/
def firstOf (gains : List (List Int)) (n : Nat) (on : List Nat) : List Int := tabN gains.length (hasF on (firsts (gi gains) n on (fun _ => true)))

theorem isOrd_parts {on : List Nat} {m : Nat} (h : isOrd (on.map fun k : Nat => (k : Int)) m = true) : on.Perm (List.range m) := by
  have h1 : (on.map fun k : Nat => (k : Int)).Perm (upTo m) := List.isPerm_iff.1 h
  have h2 := h1.map Int.toNat
  simpa [upTo, List.map_map, Function.comp_def] using h2

end Go.Proofs.YtkddkkcfpnndlaaGreatDoor

namespace Go.Proofs.YtkddkkcfpnndlaaGreatDoor
open Go.RowKit Sale

def slotOf (has : List Int) (i : Nat) : Option Nat := match has[i]? with
  | some h => if h = -1 then none else some h.toNat
  | none => none

theorem slot_of {has : List Int} {i : Nat} {x : Int} (h : has[i]? = some x) : slotOf has i = if x = -1 then none else some x.toNat := by simp [slotOf, h]

theorem lookup_at {ls : List Nat} {ms : List (Option Nat)} (hn : ls.Nodup) : ∀ {d l : Nat} {o : Option Nat}, ls[d]? = some l → ms[d]? = some o → (ls.zip ms).lookup l = some o := by
  induction ls generalizing ms with
  | nil => intro d l o h; simp at h
  | cons a ls ih =>
    intro d l o h1 h2
    obtain ⟨ha, hn⟩ := List.nodup_cons.1 hn
    cases ms with
    | nil => simp at h2
    | cons b ms =>
      cases d with
      | zero => simp at h1 h2; subst h1; subst h2; simp
      | succ d =>
        simp at h1 h2
        have : l ≠ a := fun e => ha (e ▸ List.mem_of_getElem? h1)
        rw [List.zip_cons_cons, List.lookup_cons, show (l == a) = false by simp [this]]
        exact ih hn h1 h2

theorem firstOf_length (gains : List (List Int)) (n : Nat) (on : List Nat) : (firstOf gains n on).length = gains.length := tabN_length _ _

theorem firstOf_ge (gains : List (List Int)) (n : Nat) (on : List Nat) : ∀ x, x ∈ firstOf gains n on → -1 ≤ x := by
  intro x hx
  obtain ⟨j, hj⟩ := List.mem_iff_getElem?.1 hx
  have hjl : j < gains.length := by have := (List.getElem?_eq_some_iff.1 hj).1; rwa [firstOf_length] at this
  rw [firstOf, tabN_get _ hjl] at hj
  cases hj
  unfold hasF
  split
  · rename_i o _
    cases o with
    | none => simp [itemOf]
    | some r => simp [itemOf]
  · omega

theorem first_is {gains : List (List Int)} {n : Nat} {on : List Nat} (hp : on.Perm (List.range gains.length)) : IsFirst (gi gains) n on (slotOf (firstOf gains n on)) := by
  have hn : on.Nodup := hp.nodup_iff.2 List.nodup_range
  refine ⟨?_, hn⟩
  have hlen := firsts_length (gi gains) n on (fun _ => true)
  apply List.ext_getElem?
  intro d
  by_cases hd : d < on.length
  · have hl : on[d]? = some (on[d]) := by simp
    have hf : (firsts (gi gains) n on (fun _ => true))[d]? = some ((firsts (gi gains) n on (fun _ => true))[d]'(by omega)) := by simp
    have hlt : on[d] < gains.length := List.mem_range.1 (hp.mem_iff.1 (List.getElem_mem _))
    rw [List.getElem?_map, hl, Option.map_some, hf]
    congr 1
    have hx : (firstOf gains n on)[on[d]]? = some (itemOf ((firsts (gi gains) n on (fun _ => true))[d]'(by omega))) := by
      rw [firstOf, tabN_get _ hlt, hasF, lookup_at hn hl hf]
    rw [slot_of hx]
    cases (firsts (gi gains) n on (fun _ => true))[d]'(by omega) with
    | none => simp [itemOf]
    | some r =>
      have : ((r : Int) = -1) = False := by simp
      simp [itemOf, this]
  · rw [List.getElem?_eq_none (by simp; omega), List.getElem?_eq_none (by omega)]

end Go.Proofs.YtkddkkcfpnndlaaGreatDoor
