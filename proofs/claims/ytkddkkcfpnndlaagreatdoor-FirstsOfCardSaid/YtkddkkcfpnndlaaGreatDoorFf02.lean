/- A law that the kit lacks: '==' between two arrays of integers that are variables. -/
import Derived.Test.YtkddkkcfpnndlaaGreatDoorFf00
import Derived.Laws.StructEq
import Derived.Deep.WholeRow
namespace Go.Proofs.YtkddkkcfpnndlaaGreatDoor
open Go.RowKit
/-- n numbers, by a function of the place -/
def tabN (n : Nat) (f : Nat → Int) : List Int := (List.range n).map f
theorem tabN_length (n : Nat) (f : Nat → Int) : (tabN n f).length = n := by simp [tabN]
theorem tabN_get {n : Nat} (f : Nat → Int) {k : Nat} (h : k < n) : (tabN n f)[k]? = some (f k) := by simp [tabN, h]
theorem tabN_set (n : Nat) (f : Nat → Int) (k : Nat) (v : Int) : (tabN n f).set k v = tabN n (fun j => if j = k then v else f j) := by
  apply List.ext_getElem?
  intro j
  rw [List.getElem?_set]
  by_cases hj : j < n
  · rw [tabN_get _ hj, tabN_get _ hj]
    by_cases e : k = j
    · subst e; simp [tabN, hj]
    · simp [e, Ne.symm e]
  · rw [List.getElem?_eq_none (l := tabN n f) (by simp [tabN]; omega), List.getElem?_eq_none (l := tabN n _) (by simp [tabN]; omega)]
    simp [tabN]; omega
theorem tabN_congr {n : Nat} {f f' : Nat → Int} (h : ∀ j, j < n → f j = f' j) : tabN n f = tabN n f' := by
  unfold tabN; exact List.map_congr_left fun j hj => h j (List.mem_range.1 hj)

section
variable {P : Program} (w : World)
/-- a whole array is stored into the block that was made last -/
theorem wpList_store_new {ops : Array Oper} {rest : List Oper} {o : Oper} {a : Act} {Q : Exit → Act → World → Prop} (hgd : o.guard = none) (ty : TypeId) (x y : Operand) (ho : o.op = .store ty x y)
    (c c' : Array Value) (hx : a.eval x = .pointer (some ⟨w.heap.size, 0, none⟩)) (hy : a.eval y = .agg c') (hi : (P.info? ty).map (·.size) = some c'.size) (hs : c.size = c'.size) (h1 : c'.all (·.oneCell') = true)
    (h : wpList P ops Q rest (a.put o.dst undef) (w.alloc (.cells c' ty))) : wpList P ops Q (o :: rest) a (w.alloc (.cells c ty)) :=
  wpList_plain hgd fun K hK => by
    unfold Oper.wp execOp
    simp only [ho, hx, hy, Sem.run_bind, run_storeAt_new w ty c c' hi hs h1, Result.andThen_ok, Sem.run_pure]
    exact hK _ _ h
theorem iarr_oneCell (xs : List Int) : (iarr xs).all (·.oneCell') = true := by
  simp [iarr, Value.oneCell']
end
end Go.Proofs.YtkddkkcfpnndlaaGreatDoor
