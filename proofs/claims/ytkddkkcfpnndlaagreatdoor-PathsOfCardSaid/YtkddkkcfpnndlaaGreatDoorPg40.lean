/- Walks: demands.Of. What one would have at prices, in the words of the plain texts. -/
import Derived.Test.YtkddkkcfpnndlaaGreatDoorPg36
import Derived.Test.YtkddkkcfpnndlaaGreatDoorPg39
import Derived.Test.YtkddkkcfpnndlaaGreatDoorPg09
import Derived.RegionCalls
import Derived.Maps.AppendAt
namespace Go.Proofs.YtkddkkcfpnndlaaGreatDoor
open Go.RowKit Go.Shelf

attribute [local go_sem] Oper.semAt_some

/-- what one would have, item by item -/
def dStep (s : List Nat × Int) (x : Gn) : List Nat × Int := if s.2 < x.d then ([x.k], x.d) else if x.d = s.2 then (s.1 ++ [x.k], s.2) else s
def dState (pre : List Gn) : List Nat × Int := pre.foldl dStep ([], 0)
def demOf (bid prices : List Int) : List Nat × Int := dState (gainsTo bid prices bid.length)

/-- the three results that lie in boxes -/
structure Of3 (W : World) (h : Nat) (v : Value) (b : Bool) (g : Int) : Prop where
  b4 : Boxed W h 25 v
  b5 : Boxed W (h + 1) 4 (.bool b)
  b6 : Boxed W (h + 1 + 1) 3 (.int .i64 g)
theorem Of3.step {W W' : World} {h : Nat} {v : Value} {b : Bool} {g : Int} (hA : Of3 W h v b g) (hb : Below W.heap.size W W') : Of3 W' h v b g := ⟨boxed_on hA.b4 hb, boxed_on hA.b5 hb, boxed_on hA.b6 hb⟩
/-- what grows in a block of the body's own -/
theorem Kx.grown {X : Nat → Prop} {W W' : World} {row : Option Nat} (h : W.grownBy W' row) (hr : ∀ k, row = some k → X k) : Kx X W W' :=
  ⟨h.size, fun b _o hb hx => (h.block b (Array.getElem?_eq_some_iff.1 hb).1 (fun e => hx (hr b e.symm))).trans hb⟩
end Go.Proofs.YtkddkkcfpnndlaaGreatDoor

namespace Go.Proofs.YtkddkkcfpnndlaaGreatDoor
open Go.RowKit Sale

def demS (f : Nat → Int) (s : List Nat × Int) (k : Nat) : List Nat × Int := if s.2 < f k then ([k], f k) else if f k = s.2 then (s.1 ++ [k], s.2) else s
theorem demS_max (f : Nat → Int) (n : Nat) : ((List.range n).foldl (demS f) ([], 0)).2 = foldMax (fun _ => true) f 0 (List.range n) := by
  induction n with
  | zero => rfl
  | succ n ih =>
    rw [List.range_succ, List.foldl_append, foldMax_snoc, if_pos rfl, ← ih]
    simp only [List.foldl_cons, List.foldl_nil]
    unfold demS
    split
    · simp only; omega
    · split
      · simp only; omega
      · omega
theorem demS_list (f : Nat → Int) (n : Nat) : ((List.range n).foldl (demS f) ([], 0)).1 = (List.range n).filter fun k => decide (f k = ((List.range n).foldl (demS f) ([], 0)).2) := by
  induction n with
  | zero => rfl
  | succ n ih =>
    have hle : ∀ k, k < n → f k ≤ ((List.range n).foldl (demS f) ([], 0)).2 := fun k hk => by
      rw [demS_max]; exact foldMax_ge (fun _ => true) f _ _ k (List.mem_range.2 hk) rfl
    rw [List.range_succ, List.foldl_append, List.filter_append]
    simp only [List.foldl_cons, List.foldl_nil]
    generalize (List.range n).foldl (demS f) ([], 0) = s at ih hle ⊢
    by_cases h1 : s.2 < f n
    · have e : demS f s n = ([n], f n) := by unfold demS; rw [if_pos h1]
      simp only [e]
      rw [List.filter_eq_nil_iff.2 (fun k hk => by have := hle k (List.mem_range.1 hk); simp; omega)]
      simp
    · by_cases h2 : f n = s.2
      · have e : demS f s n = (s.1 ++ [n], s.2) := by unfold demS; rw [if_neg h1, if_pos h2]
        simp only [e]
        rw [← ih]
        simp [h2]
      · have e : demS f s n = s := by unfold demS; rw [if_neg h1, if_neg h2]
        simp only [e]
        rw [← ih]
        simp [h2]
theorem demOf_fold (bid prices : List Int) : demOf bid prices = (List.range bid.length).foldl (demS fun k => bid.getD k 0 - prices.getD k 0) ([], 0) := by
  unfold demOf dState gainsTo
  rw [List.foldl_map]
  rfl
/-- what one has by each item, above the reserves, as a function -/
theorem demOf_is {bid prices : List Int} {g : Nat → Nat → Int} {N i : Nat} {q : Nat → Int} (hb : bid = [] ∨ bid.length = N) (h0 : bid = [] → ∀ k, k < N → g i k - q k < 0) (h1 : bid ≠ [] → ∀ k, k < N → g i k - q k = bid.getD k 0 - prices.getD k 0) :
    demOf bid prices = (dem g N q i, top g N q i) := by
  by_cases he : bid = []
  · have ht : top g N q i = 0 := top_eq (by omega) (fun k hk => by have := h0 he k hk; omega) (.inl rfl)
    have hd : dem g N q i = [] := by
      unfold dem
      rw [List.filter_eq_nil_iff]
      intro k hk
      have := h0 he k (List.mem_range.1 hk)
      rw [ht]; simp; omega
    rw [ht, hd, he]; rfl
  · have hl : bid.length = N := hb.resolve_left he
    have hm : ((List.range bid.length).foldl (demS fun k => bid.getD k 0 - prices.getD k 0) ([], 0)).2 = top g N q i := by
      rw [demS_max, hl]
      unfold top
      exact foldMax_congr _ _ (fun _ _ => rfl) (fun k hk _ => (h1 he k (List.mem_range.1 hk)).symm)
    have hL := demS_list (fun k => bid.getD k 0 - prices.getD k 0) bid.length
    rw [hm] at hL
    rw [demOf_fold]
    refine Prod.ext ?_ hm
    rw [hL, hl]
    unfold dem
    exact List.filter_congr fun k hk => by rw [h1 he k (List.mem_range.1 hk)]
end Go.Proofs.YtkddkkcfpnndlaaGreatDoor
