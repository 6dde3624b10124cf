/- Walks: weights.each. -/
import Derived.Test.YtkddkkcfpnndlaaGreatDoorFf03
import Derived.Test.YtkddkkcfpnndlaaGreatDoorFf04
namespace Go.Proofs.YtkddkkcfpnndlaaGreatDoor
open Go.RowKit

def upTo (n : Nat) : List Int := (List.range n).map fun (k : Nat) => (k : Int)
theorem upTo_succ (n : Nat) : upTo (n + 1) = upTo n ++ [(n : Int)] := by simp [upTo, List.range_succ]
theorem upTo_length (n : Nat) : (upTo n).length = n := by simp [upTo]

set_option maxHeartbeats 400000 in
theorem each_any (n : Nat) (w : World) (hn : n ≤ 100) :
    Calls Tryz.prog 124 #[.int .i64 n, .slice none 0 0] w fun e w' => ∃ a c, e = .returned (.slice a n c) ∧ Ints w' a n c (upTo n) ∧ Below w.heap.size w w' := by
  go_enter Tryz.func124, Tryz.ntmps124
  go_wp2_with fail
  go_loopg [5, 8] n (fun g' s5 s8 wr => ∃ k : Nat, k + g' = n ∧ s8 = .int .i64 k ∧ Own wr w.heap.size s5 (upTo k) ∧ Below w.heap.size w wr)
  case atStart => exact ⟨0, by omega, rfl, Own.nil _ _, Below.refl _ _⟩
  case round =>
    obtain ⟨k, hk, rfl, ho, hB⟩ := hrel
    by_cases hlt : k < n
    · have HK := Lib.hid hk; clear hk
      have HO := Lib.hid ho; clear ho
      have HB := Lib.hid hB; clear hB
      go_wp2_with (at_builtin; refine app1 _ rfl _ _ rfl w.heap.size _ (upTo k) rfl (HO.out.alloc _) wr.heap.size 0 1 (k : Int) rfl (by simp [go_sem]) (by rw [upTo_length]; omega) (by have := HB.out.size; simp; omega) ?_)
      intro g cap w1 ho1 _ hb1
      have HO1 := Lib.hid ho1; clear ho1
      have HB1 := Lib.hid (((HB.out.alloc HB.out.size (.cells #[.int .i64 (k : Int)] 3))).trans hb1); clear hb1
      go_wp2_with fail
      go_roundg (gk - 1)
      case measure => have := HK.out; omega
      case rel => exact ⟨k + 1, by have := HK.out; omega, by go_num, by rw [upTo_succ]; exact HO1.out, HB1.out⟩
    · obtain rfl : k = n := by omega
      have HO := Lib.hid ho; clear ho
      have HB := Lib.hid hB; clear hB
      go_wp2_with (at_builtin; refine app0 _ rfl _ _ rfl w.heap.size _ (upTo k) rfl HO.out rfl ?_)
      obtain ⟨a, c, hv, hi⟩ := HO.out.ints (by rw [upTo_length]; omega) (by intro x hx; simp [upTo] at hx; omega)
      go_ret
      rw [upTo_length] at hv hi
      exact ⟨a, c, by rw [← hv]; rfl, hi, HB.out⟩
end Go.Proofs.YtkddkkcfpnndlaaGreatDoor
