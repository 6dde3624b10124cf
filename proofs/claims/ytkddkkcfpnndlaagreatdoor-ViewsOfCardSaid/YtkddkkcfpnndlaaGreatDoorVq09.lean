/- Walks: firsts.each. -/
import Derived.Test.YtkddkkcfpnndlaaGreatDoorVq07
import Derived.Test.YtkddkkcfpnndlaaGreatDoorVq08
namespace Go.Proofs.YtkddkkcfpnndlaaGreatDoor
open Go.RowKit
/-- has an order each of so many, once? -/
def isOrd (order : List Int) (m : Nat) : Bool := order.isPerm (upTo m)

theorem upTo_get {m k : Nat} (h : k < m) : (upTo m)[k]? = some (k : Int) := by simp [upTo, h]
theorem upTo_sorted (m : Nat) : (upTo m).Pairwise (· ≤ ·) := by
  unfold upTo
  rw [List.pairwise_map]
  exact List.pairwise_lt_range.imp fun h => by omega
/-- sorted, an order is 0, 1, .. -/
theorem isOrd_sorted (order : List Int) (m : Nat) : isOrd order m = decide (sorted order = upTo m) := by
  rw [Bool.eq_iff_iff, decide_eq_true_eq]
  unfold isOrd
  rw [List.isPerm_iff]
  constructor
  · intro h
    exact ((sorted_perm order).trans h).eq_of_pairwise (fun a b _ _ h1 h2 => Int.le_antisymm h1 h2) (sorted_pair order) (upTo_sorted m)
  · intro h
    exact (sorted_perm order).symm.trans (h ▸ List.Perm.refl _)

set_option maxHeartbeats 400000 in
theorem eachOrd_any (oa : Option Addr) (o_n oc : Nat) (order : List Int) (m : Nat) (w : World) (ho : Ints w oa o_n oc order) (hsz : o_n < 17592186044000) :
    Calls Tryz.prog 57 #[.slice oa o_n oc, .int .i64 m] w fun e w' => e = .returned (.bool (isOrd order m)) ∧ Below w.heap.size w w' := by
  rw [isOrd_sorted]
  have HB0 := Lib.hid ho.bd
  have HL := Lib.hid ho.len
  have HO := Lib.hid ho; clear ho
  go_enter Tryz.func57, Tryz.ntmps57
  go_wp2_with fail
  refine (values_any oa o_n oc w).mono ?_
  rintro e w1 ⟨rfl, rfl⟩
  go_wp2_with fail
  refine (sorted_any w.heap.size oa o_n oc order _ w (by simp) (by simp [go_sem]) HO.out (by simp) ((Below.refl _ _).alloc (by simp) _) hsz).mono ?_
  rintro e w2 ⟨v, rfl, ho2, hb2⟩
  have hb3 : Below w.heap.size (w.alloc (.cells #[.slice oa o_n oc] 25)) w2 := hb2.mono (by simp)
  have HB2 := Lib.hid (((Below.refl w.heap.size w).alloc (Nat.le_refl _) _).trans hb3); clear hb2 hb3
  obtain ⟨a2, c2, rfl, hi2⟩ := ho2.ints (by rw [sorted_length, HL.out]; omega) (fun x hx => HB0.out x ((sorted_perm order).mem_iff.1 hx))
  clear ho2
  rw [sorted_length, HL.out] at hi2 ⊢
  go_wp2_with fail
  go_loopg [13] o_n (fun g s13 wr => ∃ k : Nat, k + g = o_n ∧ s13 = .int .i64 k ∧ wr = w2 ∧ (sorted order).take k = upTo k)
  case atStart => exact ⟨0, by omega, rfl, rfl, rfl⟩
  case round =>
    obtain ⟨k, hk, rfl, rfl, ht⟩ := hrel
    by_cases hlt : k < o_n
    · obtain ⟨x, hx, _⟩ := hi2.get hlt
      obtain ⟨b, o, rfl⟩ := hi2.addr (by omega)
      have hc := hi2.cell b o rfl k x hx
      have HX := Lib.hid hx; clear hx
      have HK := Lib.hid hk; clear hk
      have HT := Lib.hid ht; clear ht
      have HI := Lib.hid hi2; clear hi2
      by_cases hxk : x = (k : Int)
      · subst hxk
        go_wp2_with fail
        go_roundg (gk - 1)
        case measure => have := HK.out; omega
        case rel => exact ⟨k + 1, by have := HK.out; omega, by go_num, rfl, by rw [List.take_add_one, HX.out, HT.out, upTo_succ]; rfl⟩
      · have e1 : (x != (k : Int)) = true := by simp [hxk]
        have HXK := Lib.hid hxk; clear hxk
        go_wp2_with fail
        go_ret
        refine ⟨ret_bool ?_, HB2.out⟩
        symm
        rw [decide_eq_false_iff_not]
        intro h
        have := HX.out
        rw [h] at this
        by_cases hkm : k < m
        · rw [upTo_get hkm] at this; cases this; exact HXK.out rfl
        · rw [List.getElem?_eq_none (by rw [upTo_length]; omega)] at this; cases this
    · obtain rfl : k = o_n := by omega
      have HT := Lib.hid ht; clear ht
      have HI := Lib.hid hi2; clear hi2
      go_wp2_with fail
      go_ret
      refine ⟨ret_bool ?_, HB2.out⟩
      have h1 := HT.out
      rw [List.take_of_length_le (by rw [sorted_length, HL.out]; exact Nat.le_refl _)] at h1
      rw [h1, Bool.eq_iff_iff]
      simp only [beq_iff_eq, decide_eq_true_eq]
      constructor
      · intro h; rw [show k = m by omega]
      · intro h
        have := congrArg List.length h
        rw [upTo_length, upTo_length] at this
        omega
end Go.Proofs.YtkddkkcfpnndlaaGreatDoor
