/- Walks: the least of some numbers; what a bidder has by an item; a rise's state in memory. -/
import Derived.Test.YtkddkkcfpnndlaaGreatDoorOq08
import Derived.BigRegion
namespace Go.Proofs.YtkddkkcfpnndlaaGreatDoor
open Go.RowKit

/-! ### the least -/
set_option maxHeartbeats 400000 in
theorem min_any (a : Option Addr) (n c : Nat) (x : Int) (xs : List Int) (w : World) (h : Ints w a n c (x :: xs)) :
   Calls Tryz.prog 230 #[.slice a n c] w fun e w' => e = .returned (.int .i64 (xs.foldl min x)) ∧ Below w.heap.size w w' := by
 have hl := h.len
 have hbig := h.big
 simp at hl
 obtain ⟨b, o, rfl⟩ := h.addr (by omega)
 have c0 : w.cell? ⟨b, o, none⟩ = some (.int .i64 x) := by simpa using h.cell b o rfl 0 x rfl
 have hn1 : (1 : Int) ≤ (n : Int) := by omega
 have H := Lib.hid h; clear h
 have hl' : xs.length + 1 = n := hl
 go_enter Tryz.func230, Tryz.ntmps230
 go_wp2_with fail
 go_loopg [3, 4] (n - 1) (fun g' s3 s4 wr => ∃ k : Nat, k + g' = n ∧ 1 ≤ k ∧ s4 = .int .i64 k ∧ s3 = .int .i64 ((xs.take (k - 1)).foldl min x) ∧ Below w.heap.size w wr)
 case atStart => exact ⟨1, by omega, by omega, rfl, rfl, Below.refl _ _⟩
 case round =>
   obtain ⟨k, hk, hk1, rfl, rfl, hB⟩ := hrel
   have HK := Lib.hid hk; clear hk
   have HB := Lib.hid hB; clear hB
   by_cases hlt : k < n
   · obtain ⟨y, hy, _⟩ := H.out.get hlt
     have cy := (H.out.below HB.out (Nat.le_refl _)).cell b o rfl k y hy
     obtain ⟨j, rfl⟩ : ∃ j, k = j + 1 := ⟨k - 1, by omega⟩
     have hn : (xs.take (j + 1)).foldl min x = min ((xs.take j).foldl min x) y := by
       have hj : xs[j]? = some y := by simpa using hy
       rw [List.take_add_one, hj, List.foldl_append]; rfl
     rw [show j + 1 - 1 = j from rfl]
     generalize (xs.take j).foldl min x = M at hn ⊢
     have HN := Lib.hid hn; clear hn hy
     by_cases hm : y < M
     · have e1 : min M y = y := by omega
       have e2 : decide (y < M) = true := by simpa using hm
       rw [e1] at HN
       clear e1
       go_wp2_with fail
       all_goals
         go_roundg (gk - 1)
         case measure => have := HK.out; omega
         case rel => exact ⟨j + 2, by have := HK.out; omega, by omega, by go_num, by rw [show j + 2 - 1 = j + 1 from rfl, HN.out]; try (congr 1; omega), HB.out⟩
     · have e1 : min M y = M := by omega
       have e2 : decide (y < M) = false := by simpa using hm
       rw [e1] at HN
       clear e1
       go_wp2_with fail
       all_goals
         go_roundg (gk - 1)
         case measure => have := HK.out; omega
         case rel => exact ⟨j + 2, by have := HK.out; omega, by omega, by go_num, by rw [show j + 2 - 1 = j + 1 from rfl, HN.out]; try (congr 1; omega), HB.out⟩
   · have hkn : k = n := by have := HK.out; omega
     have e1 : decide ((k : Int) < (n : Int)) = false := by simp; omega
     have hxs : xs.take (k - 1) = xs := List.take_of_length_le (by omega)
     rw [hxs]
     clear hxs hkn
     go_wp2_with fail
     go_ret
     exact ⟨rfl, HB.out⟩
theorem least_any (a : Option Addr) (n c : Nat) (x : Int) (xs : List Int) (w : World) (h : Ints w a n c (x :: xs)) :
   Calls Tryz.prog 221 #[.slice a n c] w fun e w' => e = .returned (.int .i64 (xs.foldl min x)) ∧ Below w.heap.size w w' := by
 have H := Lib.hid (min_any a n c x xs w h); clear h
 go_enter Tryz.func221, Tryz.ntmps221
 go_wp2_with fail
 refine H.out.mono ?_
 rintro e w1 ⟨rfl, hb⟩
 have HB := Lib.hid hb; clear hb
 go_wp2_with fail
 go_ret
 exact ⟨rfl, HB.out⟩
end Go.Proofs.YtkddkkcfpnndlaaGreatDoor
