/- Walks: package markets: the order. -/
import Derived.Test.YtbnjeegicbffeaaVec
import Derived.Test.YtbnjeegicbffeaaArr
namespace Go.Proofs.Ytbnjeegicbffeaa
open Go.RowKit

def onceTo (k : Nat) : List Int := (List.range 8).map fun j => if j < k then 1 else 0
def timesOf (l : List Int) : List Int := (List.range 8).map fun (j : Nat) => (l.count (j : Int) : Int)
theorem onceTo_get {m k : Nat} (h : k < 8) : (onceTo m)[k]? = some (if k < m then 1 else 0) := by simp [onceTo, h]
theorem onceTo_set {k : Nat} (h : k < 8) : (onceTo k).set k 1 = onceTo (k + 1) := by
  have : ∀ k, k < 8 → (onceTo k).set k 1 = onceTo (k + 1) := by decide
  exact this k h
theorem timesOf_get (l : List Int) {k : Nat} (h : k < 8) : (timesOf l)[k]? = some (l.count (k : Int) : Int) := by simp [timesOf, h]
theorem timesOf_set (l : List Int) (x : Int) {k : Nat} (h : k < 8) (hx : x = k) : (timesOf l).set k ((l.count (k : Int) : Int) + 1) = timesOf (l ++ [x]) := by
  subst hx
  apply List.ext_getElem?
  intro j
  rw [List.getElem?_set]
  by_cases hj : j < 8
  · rw [timesOf_get _ hj, timesOf_get _ hj]
    by_cases e : k = j
    · subst e; simp [timesOf, hj, List.count_append]
    · have : ¬ ((k : Int) = (j : Int)) := by omega
      simp [e, List.count_append, this]
  · have : k ≠ j := by omega
    rw [if_neg this, List.getElem?_eq_none (by simp [timesOf]; omega), List.getElem?_eq_none (by simp [timesOf]; omega)]

/-- an order has each of so many, once -/
def orderOk (l : List Int) (m : Nat) : Bool := l.all (fun x => decide (0 ≤ x ∧ x < m)) && (timesOf l == onceTo m)

theorem orderOk_no {xs : List Int} {m k : Nat} {x : Int} (h : xs[k]? = some x) (hx : x < 0 ∨ (m : Int) ≤ x) : orderOk xs m = false := by
  have : xs.all (fun x => decide (0 ≤ x ∧ x < m)) = false := by
    rw [List.all_eq_false]
    exact ⟨x, List.mem_of_getElem? h, by simp; omega⟩
  unfold orderOk; rw [this]; rfl

set_option maxHeartbeats 400000 in
theorem ordered_any (a : Option Addr) (n c : Nat) (xs : List Int) (m : Nat) (w : World) (h : Ints w a n c xs) (hm : m ≤ 8) :
    Calls Try.prog 64 #[.slice a n c, .int .i64 m] w fun e w' => e = .returned (.bool (orderOk xs m)) ∧ Below w.heap.size w w' := by
  have hb := h.big
  go_enter Try.func64, Try.ntmps64
  go_wp2_with fail
  go_loopg [11] m (fun g s11 wr => ∃ k : Nat, k + g = m ∧ s11 = .int .i64 k ∧ Row wr w.heap.size 87 (timesOf []) ∧ Row wr (w.heap.size + 1) 87 (onceTo k) ∧ Below w.heap.size w wr)
  case atStart =>
    exact ⟨0, by omega, rfl, (Row.new _ _ (timesOf [])).alloc _, Row.new' _ _ (onceTo 0) (by simp), ((Below.refl _ _).alloc (Nat.le_refl _) _).alloc (by simp) _⟩
  case round =>
    obtain ⟨k, hk, rfl, ht, ho, hB⟩ := hrel
    by_cases hlt : k < m
    · have hc := ho.cell (onceTo_get (m := k) (k := k) (by omega))
      have hf := ho.frozen k
      have HK := Lib.hid hk; clear hk
      have HT := Lib.hid ht; clear ht
      have HO := Lib.hid ho; clear ho
      have HB := Lib.hid hB; clear hB
      have H := Lib.hid h; clear h
      go_wp2_with fail
      go_roundg (gk - 1)
      case measure => have := HK.out; omega
      case rel => exact ⟨k + 1, by have := HK.out; omega, by go_num, HT.out.other (by simp) _, by rw [← onceTo_set (by omega)]; exact HO.out.set k 1, HB.out.setCell (by simp) _⟩
    · obtain rfl : k = m := by omega
      have HT := Lib.hid ht; clear ht
      have HO := Lib.hid ho; clear ho
      have HB := Lib.hid hB; clear hB
      go_wp2_with fail
      obtain ⟨w1, rfl⟩ : ∃ w1 : World, w1 = wr := ⟨_, rfl⟩
      go_loopg [19] n (fun g s19 wr => ∃ j : Nat, j + g = n ∧ s19 = .int .i64 j ∧ Row wr w.heap.size 87 (timesOf (xs.take j)) ∧ Row wr (w.heap.size + 1) 87 (onceTo k) ∧ Below w.heap.size w wr ∧ (xs.take j).all (fun x => decide (0 ≤ x ∧ x < k)) = true)
      case atStart => exact ⟨0, by omega, rfl, HT.out, HO.out, HB.out, rfl⟩
      case round =>
        obtain ⟨j, hj, rfl, ht, ho, hB, hall⟩ := hrel
        by_cases hlt : j < n
        · obtain ⟨x, hx, _⟩ := h.get hlt
          obtain ⟨b, o, rfl⟩ := h.addr (by omega)
          have h1 := h.below hB (Nat.le_refl _)
          have hc := h1.cell b o rfl j x hx
          have HX := Lib.hid hx; clear hx
          have HJ := Lib.hid hj; clear hj
          have HA := Lib.hid hall; clear hall
          have HB := Lib.hid hB; clear hB
          have H := Lib.hid h; clear h h1
          by_cases hx0 : x < 0
          · have HT := Lib.hid ht; clear ht
            have HO := Lib.hid ho; clear ho
            go_wp2_with fail
            go_ret
            exact ⟨ret_bool (by rw [orderOk_no HX.out (.inl hx0)]), HB.out⟩
          · by_cases hx1 : (k : Int) ≤ x
            · have HT := Lib.hid ht; clear ht
              have HO := Lib.hid ho; clear ho
              go_wp2_with fail
              go_ret
              exact ⟨ret_bool (by rw [orderOk_no HX.out (.inr hx1)]), HB.out⟩
            · obtain ⟨q, rfl⟩ : ∃ q : Nat, x = q := ⟨x.toNat, by omega⟩
              have hq : q < 8 := by omega
              have hc2 := ht.cell (timesOf_get (xs.take j) hq)
              have hf := ht.frozen q
              have hcl : (xs.take j).count (q : Int) ≤ j := Nat.le_trans List.count_le_length (by simp; omega)
              have e1 : IntKind.i64.wrap (((xs.take j).count (q : Int) : Int) + 1) = ((xs.take j).count (q : Int) : Int) + 1 := IntWalk.i64_in _ (by omega)
              generalize hcc : (xs.take j).count (q : Int) = cc at hc2 e1 hcl
              have HC := Lib.hid hcc; clear hcc
              have HT := Lib.hid ht; clear ht
              have HO := Lib.hid ho; clear ho
              go_wp2_with fail
              go_roundg (gk - 1)
              case measure => have := HJ.out; omega
              case rel =>
                refine ⟨j + 1, by have := HJ.out; omega, by go_num, ?_, HO.out.other (by simp) _, HB.out.setCell (by simp) _, ?_⟩
                · have := HT.out.set q ((cc : Int) + 1)
                  rw [← HC.out, timesOf_set _ _ hq rfl] at this
                  rw [← HC.out, List.take_add_one, HX.out]; exact this
                · rw [List.take_add_one, HX.out, List.all_append, HA.out]; simp; omega
        · obtain rfl : j = n := by omega
          have HA := Lib.hid hall; clear hall
          have HB := Lib.hid hB; clear hB
          have hz1 : (iarr (timesOf (xs.take j))).size = 8 := rfl
          have hz2 : (iarr (onceTo k)).size = 8 := rfl
          have hq : ∀ w, (binOp .eql 87 (.agg (iarr (timesOf (xs.take j)))) (.agg (iarr (onceTo k)))).run Try.prog w = .ok (.bool (timesOf (xs.take j) == onceTo k)) w :=
            fun w => run_eql_iarr w 87 3 _ _ 8 Try.underlying87 Try.underlying3 (by kernel_rfl) rfl rfl
          have HT := Lib.hid ht; clear ht
          have HO := Lib.hid ho; clear ho
          have H := Lib.hid h; clear h
          go_wp2_with (first | (refine wpList_load_row rfl 87 _ rfl w.heap.size rfl 87 (iarr (timesOf (xs.take j))) (0, 0) _ HT.out Try.underlying87 rfl (by kernel_rfl) ?_) | (refine wpList_load_row rfl 87 _ rfl (w.heap.size + 1) rfl 87 (iarr (onceTo k)) (0, 0) _ HO.out Try.underlying87 rfl (by kernel_rfl) ?_))
          go_ret
          refine ⟨ret_bool ?_, HB.out⟩
          have ha := HA.out
          have hl := H.out.len
          rw [List.take_of_length_le (by omega)] at ha ⊢
          unfold orderOk
          rw [ha]; rfl
end Go.Proofs.Ytbnjeegicbffeaa
