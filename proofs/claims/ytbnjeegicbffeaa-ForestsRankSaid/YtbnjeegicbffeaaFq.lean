/- What First answers: refused, or the first of the best. -/
import Derived.Test.YtbnjeegicbffeaaFs2
import Derived.Test.YtbnjeegicbffeaaLiftB
namespace Go.Proofs.Ytbnjeegicbffeaa
open Go.RowKit Sale

theorem order_nat {order : List Int} {m : Nat} (h : isOrd order m = true) : ∃ on : List Nat, order = on.map fun k : Nat => (k : Int) := by
  refine ⟨order.map Int.toNat, ?_⟩
  rw [List.map_map]
  have hp : order.Perm (upTo m) := List.isPerm_iff.1 h
  have : ∀ x, x ∈ order → 0 ≤ x := by
    intro x hx
    have := hp.mem_iff.1 hx
    unfold upTo at this
    obtain ⟨j, _, rfl⟩ := List.mem_map.1 this
    omega
  conv => lhs; rw [← List.map_id order]
  refine List.map_congr_left fun x hx => ?_
  have := this x hx
  simp; omega

/-- what First answers: refused, or the first of the best -/
theorem First_all (ga oa : Option Addr) (gn gc o_n oc : Nat) (gains : List (List Int)) (items : Int) (order : List Int) (w : World) (hg : Rows w ga gn gc gains) (ho : Ints w oa o_n oc order) (hsz : o_n * 8 ≤ reachBytes) :
    (firstOk gains items order = false ∧ Calls Try.prog 23 #[.slice ga gn gc, .int .i64 items, .slice oa o_n oc] w (RetList 1 [] w)) ∨
    ∃ (n : Nat) (on : List Nat), items = n ∧ order = on.map (fun k : Nat => (k : Int)) ∧ wcheck gains items = true ∧ isOrd order gains.length = true ∧
      Calls Try.prog 23 #[.slice ga gn gc, .int .i64 items, .slice oa o_n oc] w (RetList 0 (firstOf gains n on) w) := by
  have hr : reachBytes = 140737488351232 := rfl
  cases hok : firstOk gains items order with
  | false => exact .inl ⟨rfl, First_no ga oa gn gc o_n oc gains items order w hg ho (by omega) hok⟩
  | true =>
    simp only [firstOk, Bool.and_eq_true] at hok
    obtain ⟨on, rfl⟩ := order_nat hok.2
    have hw := wcheck_parts hok.1
    obtain ⟨n, rfl⟩ := Int.eq_ofNat_of_zero_le (show 0 ≤ items by omega)
    exact .inr ⟨n, on, rfl, rfl, hok.1, hok.2, First_yes ga oa gn gc o_n oc gains n on w hg ho hok.1 hok.2⟩

end Go.Proofs.Ytbnjeegicbffeaa
