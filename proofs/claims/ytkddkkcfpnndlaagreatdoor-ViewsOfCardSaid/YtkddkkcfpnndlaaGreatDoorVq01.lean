/- Walks: package vectors. -/
import Derived.Test.YtkddkkcfpnndlaaGreatDoorVq00
import Derived.Test.YtkddkkcfpnndlaaGreatDoorRows
namespace Go.Proofs.YtkddkkcfpnndlaaGreatDoor
open Go.RowKit

def within (most : Int) (xs : List Int) : Bool := xs.all fun x => decide (0 ≤ x ∧ x ≤ most)
theorem within_no {most : Int} {xs : List Int} {k : Nat} {x : Int} (h : xs[k]? = some x) (hx : x < 0 ∨ most < x) : within most xs = false := by
  unfold within
  rw [List.all_eq_false]
  exact ⟨x, List.mem_of_getElem? h, by simp; omega⟩
theorem within_snoc {most : Int} {xs : List Int} {k : Nat} {x : Int} (h : xs[k]? = some x) (hw : within most (xs.take k) = true) (h0 : 0 ≤ x) (h1 : x ≤ most) : within most (xs.take (k + 1)) = true := by
  unfold within at *
  rw [List.take_add_one, h, List.all_append, hw]
  simp; omega
theorem within_all {most : Int} {xs : List Int} {n : Nat} (h : xs.length = n) : within most (xs.take n) = within most xs := by
  rw [List.take_of_length_le (by omega)]

set_option maxHeartbeats 400000 in
theorem within_any (most : Int) (a : Option Addr) (n c : Nat) (xs : List Int) (w : World) (h : Ints w a n c xs) :
    Calls Tryz.prog 182 #[.int .i64 most, .slice a n c] w fun e w' => e = .returned (.bool (within most xs)) ∧ w = w' := by
  have hb := h.big
  go_enter Tryz.func182, Tryz.ntmps182
  go_wp2_with fail
  go_step3
  go_wp2_with fail
  go_step3
  go_wp2_with fail
  go_loopg [5, 12] n (fun g s5 s12 wr => ∃ k : Nat, k + g = n ∧ s12 = .int .i64 k ∧ s5 = .int .i64 (n - k : Nat) ∧ within most (xs.take k) = true ∧ wr = w)
  case atStart => exact ⟨0, by omega, rfl, rfl, rfl, rfl⟩
  case round =>
    obtain ⟨k, hk, rfl, rfl, hw, rfl⟩ := hrel
    by_cases hlt : k < n
    · obtain ⟨b, o, rfl⟩ := h.addr (by omega)
      obtain ⟨x, hx, _⟩ := h.get hlt
      have hc := h.cell b o rfl k x hx
      have H := Lib.hid h; clear h
      have HW := Lib.hid hw; clear hw
      have HX := Lib.hid hx; clear hx
      have HK := Lib.hid hk; clear hk
      go_wp2_with fail
      · rw [Exit.noGoto_ret]; go_ret
        exact ⟨ret_bool (by rw [within_no (k := k) HX.out (.inl ‹_›), beq_eq_false_iff_ne]; omega), rfl⟩
      · rw [Exit.noGoto_ret]; go_ret
        exact ⟨ret_bool (by rw [within_no (k := k) HX.out (.inr ‹_›), beq_eq_false_iff_ne]; omega), rfl⟩
      · go_roundg (gk - 1)
        case measure => have := HK.out; omega
        case rel => exact ⟨k + 1, by have := HK.out; omega, by go_num, by rw [show ((n - k : Nat) : Int) - 1 = ((n - (k + 1) : Nat) : Int) by omega], within_snoc HX.out HW.out (by omega) (by omega), rfl⟩
    · obtain rfl : k = n := by omega
      have HW := Lib.hid hw; clear hw
      have HL := Lib.hid h.len; clear h
      go_wp2_with fail
      rw [Exit.noGoto_ret]; go_ret
      exact ⟨ret_bool (by rw [← within_all HL.out, HW.out]), rfl⟩

/-- a bid may be, for so many items -/
def vcheck (xs : List Int) (items : Int) : Bool := decide (1 ≤ items ∧ items ≤ 8) && decide ((xs.length : Int) = items) && within 1000000 xs

theorem wrap64_bd (x : Int) : -9223372036854775808 ≤ wrap64 x ∧ wrap64 x ≤ 9223372036854775807 := by unfold wrap64; omega
theorem wrap_sub_one (x : Int) (h : -9223372036854775808 ≤ x ∧ x ≤ 9223372036854775807) (h1 : ¬ (1 ≤ x ∧ x ≤ 8)) : within 7 [wrap64 (x - 1)] = false := by
  simp only [within, List.all_cons, List.all_nil, Bool.and_true, decide_eq_false_iff_not]
  unfold wrap64
  omega

set_option maxHeartbeats 400000 in
theorem vcheck_any (a : Option Addr) (n c : Nat) (xs : List Int) (items : Int) (w : World) (h : Ints w a n c xs) (hi : -9223372036854775808 ≤ items ∧ items ≤ 9223372036854775807) :
    Calls Tryz.prog 151 #[.slice a n c, .int .i64 items] w fun e w' => e = .returned (.bool (vcheck xs items)) ∧ Below w.heap.size w w' := by
  have hl := h.len
  have H := Lib.hid h; clear h
  by_cases h1 : 1 ≤ items ∧ items ≤ 8
  · have hw1 : within 7 [items - 1] = true := by simp [within]; omega
    by_cases h2 : (n : Int) = items
    · have e2 : ((n : Int) == items) = true := by simp [h2]
      have hv : vcheck xs items = within 1000000 xs := by simp [vcheck, h1, hl, h2]
      rw [hv]; clear hv
      have H2 := Lib.hid h2; clear h2
      have HL := Lib.hid hl; clear hl
      obtain ⟨h3, h4⟩ := h1
      go_enter Tryz.func151, Tryz.ntmps151
      go_wp2_with fail
      refine (within_any 7 _ 1 1 [items - 1] _ (Ints.one _ (by omega))).mono ?_
      rintro e w1 ⟨rfl, rfl⟩
      go_wp2_with fail
      refine (within_any 1000000 _ _ _ xs _ (H.out.below (w' := w.alloc (.cells #[.int .i64 (items - 1)] 3)) ((Below.refl _ _).alloc (Nat.le_refl _) _) (Nat.le_refl _))).mono ?_
      rintro e w1 ⟨rfl, rfl⟩
      go_wp2_with fail
      go_ret
      exact ⟨rfl, (Below.refl _ _).alloc (Nat.le_refl _) _⟩
    · have e2 : ((n : Int) == items) = false := by simp [h2]
      have hv : vcheck xs items = false := by simp [vcheck, hl, h2]
      rw [hv]; clear hv
      have H2 := Lib.hid h2; clear h2
      have HL := Lib.hid hl; clear hl
      obtain ⟨h3, h4⟩ := h1
      go_enter Tryz.func151, Tryz.ntmps151
      go_wp2_with fail
      refine (within_any 7 _ 1 1 [items - 1] _ (Ints.one _ (by omega))).mono ?_
      rintro e w1 ⟨rfl, rfl⟩
      go_wp2_with fail
      go_ret
      exact ⟨rfl, (Below.refl _ _).alloc (Nat.le_refl _) _⟩
  · have hw1 := wrap_sub_one items hi h1
    have hv : vcheck xs items = false := by simp [vcheck, h1]
    rw [hv]; clear hv
    have H1 := Lib.hid h1; clear h1
    go_enter Tryz.func151, Tryz.ntmps151
    go_wp2_with fail
    refine (within_any 7 _ 1 1 [wrap64 (items - 1)] _ (Ints.one _ (wrap64_bd _))).mono ?_
    rintro e w1 ⟨rfl, rfl⟩
    go_wp2_with fail
    go_ret
    exact ⟨rfl, (Below.refl _ _).alloc (Nat.le_refl _) _⟩

end Go.Proofs.YtkddkkcfpnndlaaGreatDoor
