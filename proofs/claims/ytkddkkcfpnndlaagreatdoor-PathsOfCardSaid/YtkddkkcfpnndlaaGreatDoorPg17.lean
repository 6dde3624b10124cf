/- Walks: are two lists the same? -/
import Derived.Test.YtkddkkcfpnndlaaGreatDoorPg00
import Derived.Test.YtkddkkcfpnndlaaGreatDoorRows
import Derived.BigRegion
namespace Go.Proofs.YtkddkkcfpnndlaaGreatDoor
open Go.RowKit

theorem same_any (a b : Option Addr) (n c m d : Nat) (xs ys : List Int) (w : World) (hx : Ints w a n c xs) (hy : Ints w b m d ys) :
    Calls Tryz.prog 13 #[.slice a n c, .slice b m d] w fun e w' => e = .returned (.bool (decide (xs = ys))) ∧ Below w.heap.size w w' := by
  have HX := Lib.hid hx.len
  have HY := Lib.hid hy.len
  by_cases hl : n = m
  · subst hl
    have H1 := Lib.hid hx; clear hx
    have H2 := Lib.hid hy; clear hy
    have hbig := H1.out.big
    go_enter Tryz.func13, Tryz.ntmps13
    go_wp2_with fail
    go_loopg [5] n (fun g s7 wr => ∃ k : Nat, k + g = n ∧ s7 = .int .i64 k ∧ Below w.heap.size w wr ∧ xs.take k = ys.take k)
    case atStart => exact ⟨0, by omega, rfl, Below.refl _ _, rfl⟩
    case round =>
      obtain ⟨k, hk, rfl, hB, ht⟩ := hrel
      have HT := Lib.hid ht; clear ht
      by_cases hlt : k < n
      · obtain ⟨x, hx, _⟩ := H1.out.get hlt
        obtain ⟨y, hy, _⟩ := H2.out.get hlt
        obtain ⟨b1, o1, rfl⟩ := H1.out.addr (by omega)
        obtain ⟨b2, o2, rfl⟩ := H2.out.addr (by omega)
        have hc1 := (H1.out.below hB (Nat.le_refl _)).cell b1 o1 rfl k x hx
        have hc2 := (H2.out.below hB (Nat.le_refl _)).cell b2 o2 rfl k y hy
        have HB := Lib.hid hB; clear hB
        have HK := Lib.hid hk; clear hk
        have HXK := Lib.hid hx; clear hx
        have HYK := Lib.hid hy; clear hy
        go_wp2_with fail
        go_region
        by_cases hxy : x = y
        · subst hxy
          go_wp2_with fail
          go_roundg (gk - 1)
          case measure => have := HK.out; omega
          case rel => exact ⟨k + 1, by have := HK.out; omega, by go_num, HB.out.drew, by rw [List.take_add_one, List.take_add_one, HXK.out, HYK.out, HT.out]⟩
        · have e1 : (x != y) = true := by simp [hxy]
          have HN := Lib.hid hxy; clear hxy
          go_wp2_with fail
          go_ret
          refine ⟨ret_bool ?_, HB.out.drew⟩
          symm
          rw [decide_eq_false_iff_not]
          intro h
          have := HXK.out
          rw [h, HYK.out] at this
          cases this
          exact HN.out rfl
      · obtain rfl : k = n := by omega
        go_wp2_with fail
        go_ret
        refine ⟨ret_bool ?_, hB⟩
        symm
        rw [decide_eq_true_eq]
        have := HT.out
        rwa [List.take_of_length_le (by rw [HX.out]; exact Nat.le_refl _), List.take_of_length_le (by rw [HY.out]; exact Nat.le_refl _)] at this
  · have e1 : ((n : Int) != (m : Int)) = true := by simp; omega
    clear hx hy
    have HL := Lib.hid hl; clear hl
    go_enter Tryz.func13, Tryz.ntmps13
    go_wp2_with fail
    go_ret
    refine ⟨ret_bool ?_, Below.refl _ _⟩
    symm
    rw [decide_eq_false_iff_not]
    rintro rfl
    exact HL.out (HX.out.symm.trans HY.out)
end Go.Proofs.YtkddkkcfpnndlaaGreatDoor
