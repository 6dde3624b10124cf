/- What cannot be reached makes no difference: what the law PathsOthers asks. -/
import Derived.Test.YtbnjeegicbffeaaPp5
namespace Go.Proofs.Ytbnjeegicbffeaa
open Go.RowKit

/-- the list of one that is not reached: what it has -/
def oRow (m : List Int) (j : Nat) : List Nat := match hasAt m j with
  | some k => [k]
  | none => []
/-- .. of the first i -/
def oTo (G : List (List Nat)) (m : List Int) (ws : List Nat) (i : Nat) : List (List Nat) := (List.range G.length).map fun j => if j < i ∧ j ∉ ws then oRow m j else nbOf G j
theorem oTo_length (G : List (List Nat)) (m : List Int) (ws : List Nat) (i : Nat) : (oTo G m ws i).length = G.length := by simp [oTo]
theorem oTo_get {G : List (List Nat)} {m : List Int} {ws : List Nat} {i j : Nat} (hj : j < G.length) : (oTo G m ws i)[j]? = some (if j < i ∧ j ∉ ws then oRow m j else nbOf G j) := by simp [oTo, hj]
theorem oTo_zero (G : List (List Nat)) (m : List Int) (ws : List Nat) : oTo G m ws 0 = G := by
  apply List.ext_getElem?
  intro j
  by_cases hj : j < G.length
  · rw [oTo_get hj, if_neg (by omega)]
    have : G[j]? = some G[j] := by simp
    simp [nbOf, this]
  · rw [List.getElem?_eq_none (by rw [oTo_length]; omega), List.getElem?_eq_none (by omega)]
theorem ite_next {α : Type} {i j : Nat} {ws : List Nat} (h : j ≠ i) (a b : α) : (if j < i + 1 ∧ j ∉ ws then a else b) = if j < i ∧ j ∉ ws then a else b := by
  by_cases hw : j ∈ ws
  · rw [if_neg (fun h => h.2 hw), if_neg (fun h => h.2 hw)]
  · by_cases hj : j < i
    · rw [if_pos ⟨by omega, hw⟩, if_pos ⟨hj, hw⟩]
    · rw [if_neg (fun h => by omega), if_neg (fun h => by omega)]
theorem oTo_in {G : List (List Nat)} {m : List Int} {ws : List Nat} {i : Nat} (h : i ∈ ws) : oTo G m ws (i + 1) = oTo G m ws i := by
  unfold oTo
  refine List.map_congr_left fun j _ => ?_
  by_cases e : j = i
  · subst e; simp [h]
  · exact ite_next e _ _
theorem oTo_set {G : List (List Nat)} {m : List Int} {ws : List Nat} {i : Nat} (hi : i < G.length) (h : i ∉ ws) : (oTo G m ws i).set i (oRow m i) = oTo G m ws (i + 1) := by
  apply List.ext_getElem?
  intro j
  rw [List.getElem?_set]
  by_cases hj : j < G.length
  · by_cases e : i = j
    · subst e; rw [if_pos rfl, if_pos (by rw [oTo_length]; exact hi), oTo_get hj, if_pos ⟨by omega, h⟩]
    · rw [if_neg e, oTo_get hj, oTo_get hj, ite_next (Ne.symm e)]
  · rw [if_neg (by omega), List.getElem?_eq_none (by rw [oTo_length]; omega), List.getElem?_eq_none (by rw [oTo_length]; omega)]

theorem nbOf_o {G : List (List Nat)} {m : List Int} {ws : List Nat} {i j : Nat} (hj : j < G.length) : nbOf (oTo G m ws i) j = if j < i ∧ j ∉ ws then oRow m j else nbOf G j := by
  unfold nbOf
  rw [oTo_get hj]; rfl

theorem oTo_ok {G : List (List Nat)} {items : Int} {m : List Int} {f : Nat} (hok : bOk (G.map nats) items m f = true) (ws : List Nat) (i : Nat) : bOk ((oTo G m ws i).map nats) items m f = true := by
  have hb := bOk_parts hok
  have hf : fitsB (G.map nats) items m = true := by
    simp only [bOk, Bool.and_eq_true, decide_eq_true_eq] at hok
    exact hok.1.1.1
  obtain ⟨h1, _, _⟩ := fitsB_parts hf
  obtain ⟨q1, q2, q3, q4⟩ := gcheck_parts h1
  have hg : gcheck ((oTo G m ws i).map nats) items = true := by
    simp only [gcheck, Bool.and_eq_true, decide_eq_true_eq, Bool.not_eq_true', List.any_eq_false]
    refine ⟨⟨⟨q1, q2⟩, by rw [List.length_map, oTo_length]; exact hb.n8⟩, fun l hl => ?_⟩
    obtain ⟨L, hL, rfl⟩ := List.mem_map.1 hl
    obtain ⟨j, hj, rfl⟩ := List.mem_map.1 hL
    have hjl := List.mem_range.1 hj
    have hr : risesFrom items (-1) (nats (if j < i ∧ j ∉ ws then oRow m j else nbOf G j)) = true := by
      split
      · unfold oRow
        cases e : hasAt m j with
        | none => rfl
        | some k =>
          obtain ⟨z, hz, hne, ez⟩ := hasAt_some e
          have := fits_item hf hz hne
          simp only [nats, List.map_cons, List.map_nil, risesFrom, Bool.and_true, decide_eq_true_eq]
          omega
      · have e : G[j]? = some G[j] := by simp
        rw [show nbOf G j = G[j] by simp [nbOf, e]]
        exact q4 _ (List.mem_map.2 ⟨G[j], List.getElem_mem _, rfl⟩)
    simp [hr]
  have hfit : fitsB ((oTo G m ws i).map nats) items m = true := by
    refine fits_of hg (by rw [oTo_length]; exact hb.len) (fun x hx => (hb.bd x hx).1) (fun x y r => hb.mat.inj x y r) (fun x r e => ?_)
    have hx := hb.mat.lt x r e
    rw [nbOf_o (by have := hb.len; omega)]
    split
    · simp [oRow, e]
    · exact hb.mat.fits x r e
  simp only [bOk, Bool.and_eq_true, decide_eq_true_eq] at hok ⊢
  refine ⟨⟨⟨hfit, hok.1.1.2⟩, ?_⟩, hok.2⟩
  have := hb.lt
  have := hb.len
  rw [List.length_map, oTo_length]; omega

/-- with the lists of those that are not reached empty the way is the same -/
theorem oTo_more {G : List (List Nat)} {m : List Int} {f : Nat} (hb : BOk G m f) (i : Nat) : moreOf (oTo G m (reachOf G m f).ws i) m f = moreOf G m f := by
  unfold moreOf
  rw [Way.more_congr hb.held hb.zero (nb' := nbOf (oTo G m (reachOf G m f).ws i)) fun w hw => ?_]
  have hwl := reach_lt hb hw
  rw [nbOf_o (by have := hb.len; omega), if_neg (fun h => h.2 ((reach_who hb w).2 hw))]

/-- whom the search does not reach has what it had -/
theorem Moved.same {G : List (List Nat)} {m l : List Int} {f k i : Nat} {ws : List Nat} (h : Moved G m f l k ws) (hb : BOk G m f) (hi : i ∉ (reachOf G m f).ws) {x y : Int} (hx : m[i]? = some x) (hy : l[i]? = some y) : y = x := by
  have hw : i ∉ ws := fun hm => hi ((reach_who hb i).2 (h.reach i hm))
  have := h.went.same i hw
  rw [hasAt_of hx, hasAt_of hy] at this
  have h1 := (hb.bd x (List.mem_of_getElem? hx)).1
  have h2 := h.ge y (List.mem_of_getElem? hy)
  split at this <;> split at this
  · omega
  · cases this
  · cases this
  · have := Option.some.inj this; omega
end Go.Proofs.Ytbnjeegicbffeaa
