/- Whom one reaches, as the law PathsReach asks it. -/
import Derived.Test.YtbnjeegicbffeaaPa2
namespace Go.Proofs.Ytbnjeegicbffeaa
open Go.RowKit

theorem reach_who {G : List (List Nat)} {m : List Int} {f : Nat} (hb : BOk G m f) (y : Nat) : y ∈ (reachOf G m f).ws ↔ Way.Reach (nbOf G) (hasAt m) f y := Way.full_who hb.held hb.zero hb.h8 y
theorem reach_what {G : List (List Nat)} {m : List Int} {f : Nat} (hb : BOk G m f) (k : Nat) : 0 < (reachOf G m f).came k ↔ ∃ w, Way.Reach (nbOf G) (hasAt m) f w ∧ k ∈ nbOf G w := Way.full_what hb.held hb.zero hb.h8 k

theorem mem_whatOf {came : Nat → Nat} {k n : Nat} : k ∈ whatOf came n ↔ k < n ∧ 0 < came k := by simp [whatOf]

theorem reach_lt {G : List (List Nat)} {m : List Int} {f y : Nat} (hb : BOk G m f) (h : Way.Reach (nbOf G) (hasAt m) f y) : y < m.length := by
  rcases Way.reach_holds h with rfl | ⟨k, _, e, _⟩
  · exact hb.lt
  · exact hb.mat.lt y k e

theorem reach_item {G : List (List Nat)} {m : List Int} {f y : Nat} (hb : BOk G m f) (h : y ∈ (reachOf G m f).ws) : y < m.length ∧ (y = f ∨ ∃ k : Nat, m[y]? = some (k : Int) ∧ (k : Int) ∈ nats (whatOf (reachOf G m f).came 8)) := by
  have hr := (reach_who hb y).1 h
  refine ⟨reach_lt hb hr, ?_⟩
  rcases Way.reach_holds hr with rfl | ⟨k, w', e, hw', hk⟩
  · exact .inl rfl
  · right
    obtain ⟨x, hx, hne, ex⟩ := hasAt_some e
    have := hb.bd x (List.mem_of_getElem? hx)
    refine ⟨k, by rw [hx]; congr 1; omega, mem_nats.2 (mem_whatOf.2 ⟨hb.h8 y k e, (reach_what hb k).2 ⟨w', hw', hk⟩⟩)⟩

/-- all may have all -/
def allG (n items : Nat) : List (List Nat) := List.replicate n (List.range items)
theorem nbOf_all {n items i : Nat} (hi : i < n) : nbOf (allG n items) i = List.range items := by simp [nbOf, allG, hi]

theorem rises_range {items : Nat} : ∀ (k : Nat) (last : Int), k ≤ items → last < (k : Int) → risesFrom (items : Int) last (nats (List.range' k (items - k))) = true := by
  intro k
  induction hd : items - k generalizing k with
  | zero => intro last _ _; rfl
  | succ d ih =>
    intro last hk hl
    rw [List.range'_succ]
    simp only [nats, List.map_cons, risesFrom, Bool.and_eq_true, decide_eq_true_eq]
    exact ⟨⟨hl, by omega⟩, ih (k + 1) (by omega) (k : Int) (by omega) (by omega)⟩

theorem gcheck_all {n items : Nat} (hn : n ≤ 8) (hi : items ≤ 8) : gcheck ((allG n items).map nats) items = true := by
  simp only [gcheck, Bool.and_eq_true, decide_eq_true_eq, Bool.not_eq_true', List.any_eq_false]
  refine ⟨⟨⟨by omega, by omega⟩, by simp [allG]; exact hn⟩, fun l hl => ?_⟩
  obtain ⟨L, hL, rfl⟩ := List.mem_map.1 hl
  obtain rfl := List.eq_of_mem_replicate hL
  have := rises_range (items := items) 0 (-1) (Nat.zero_le _) (by omega)
  rw [Nat.sub_zero, ← List.range_eq_range'] at this
  simp [this]

theorem all_ok {G : List (List Nat)} {items : Nat} {m : List Int} {f : Nat} (hok : bOk (G.map nats) items m f = true) : bOk ((allG m.length items).map nats) items m f = true := by
  have hb := bOk_parts hok
  have hf : fitsB (G.map nats) items m = true := by
    simp only [bOk, Bool.and_eq_true, decide_eq_true_eq] at hok
    exact hok.1.1.1
  obtain ⟨h1, h2, h3⟩ := fitsB_parts hf
  have q := gcheck_parts h1
  have hfit : fitsB ((allG m.length items).map nats) items m = true := by
    refine fits_of (gcheck_all (by have := hb.n8; have := hb.len; omega) (by omega)) (by simp [allG]) (fun x hx => (hb.bd x hx).1) (fun x y r => hb.mat.inj x y r) (fun x r e => ?_)
    have hx := hb.mat.lt x r e
    rw [nbOf_all hx, List.mem_range]
    obtain ⟨z, hz, hne, ez⟩ := hasAt_some e
    have := fits_item hf hz hne
    omega
  simp only [bOk, Bool.and_eq_true, decide_eq_true_eq] at hok ⊢
  refine ⟨⟨⟨hfit, hok.1.1.2⟩, ?_⟩, hok.2⟩
  have := hb.lt
  simp [allG]; omega

theorem all_things {items : Nat} {m : List Int} {f : Nat} (hb : BOk (allG m.length items) m f) (hi : items ≤ 8) : (nats (whatOf (reachOf (allG m.length items) m f).came 8)).length = items := by
  have e : whatOf (reachOf (allG m.length items) m f).came 8 = List.range items := by
    have hs : ∀ k, 0 < (reachOf (allG m.length items) m f).came k ↔ k < items := fun k => by
      rw [reach_what hb]
      constructor
      · rintro ⟨w, hw, hk⟩
        have hw2 := reach_lt hb hw
        rw [nbOf_all hw2] at hk
        exact List.mem_range.1 hk
      · intro hk
        exact ⟨f, .base, by rw [nbOf_all hb.lt]; exact List.mem_range.2 hk⟩
    unfold whatOf
    rw [show (fun k => decide (0 < (reachOf (allG m.length items) m f).came k)) = fun k => decide (k < items) from funext fun k => by rw [decide_eq_decide]; exact hs k]
    have h8 : ∀ j, j ≤ 8 → (List.range 8).filter (fun k => decide (k < j)) = List.range j := by decide
    exact h8 items hi
  rw [e]; simp [nats]

theorem all_who {G : List (List Nat)} {items : Nat} {m : List Int} {f y : Nat} (hb : BOk G m f) (hf : fitsB (G.map nats) items m = true) (hb2 : BOk (allG m.length items) m f) (h : y ∈ (reachOf G m f).ws) : y ∈ (reachOf (allG m.length items) m f).ws := by
  rw [reach_who hb2]
  rcases Way.reach_holds ((reach_who hb y).1 h) with rfl | ⟨k, _, e, _⟩
  · exact .base
  · refine .more (k := k) .base ?_ e
    rw [nbOf_all hb.lt, List.mem_range]
    obtain ⟨z, hz, hne, ez⟩ := hasAt_some e
    have := fits_item hf hz hne
    omega
end Go.Proofs.Ytbnjeegicbffeaa
