/- Walks: alive (some answers of First). -/
import Derived.Test.YtbnjeegicbffeaaFl1
namespace Go.Proofs.Ytbnjeegicbffeaa
open Go.RowKit Sale

theorem firstLit (w : World) (xs ys : List Int) (k m : Nat) (on : List Nat) (hx : xs.length = k) (hy : ys.length = k) (ho : on.length = m)
    (hk : k ≤ 8) (hm : m ≤ 8) (hbx : ∀ x, x ∈ xs → -1000000 ≤ x ∧ x ≤ 1000000) (hby : ∀ x, x ∈ ys → -1000000 ≤ x ∧ x ≤ 1000000) (hon : ∀ x, x ∈ on → x < 100)
    (e : Int) (r : List Int) (hr : (e = 0 ∧ wcheck [xs, ys] k = true ∧ isOrd (on.map fun j : Nat => (j : Int)) 2 = true ∧ firstOf [xs, ys] k on = r) ∨ (e = 1 ∧ r = [] ∧ firstOk [xs, ys] k (on.map fun j : Nat => (j : Int)) = false)) :
    Calls Try.prog 23 #[.slice (some ⟨w.heap.size + 1 + 1, 0, none⟩) 2 2, .int .i64 k, .slice (some ⟨w.heap.size + 1 + 1 + 1, 0, none⟩) m m]
      ((((w.alloc (.cells (iarr xs) 3)).alloc (.cells (iarr ys) 3)).alloc (.cells #[.slice (some ⟨w.heap.size, 0, none⟩) k k, .slice (some ⟨w.heap.size + 1, 0, none⟩) k k] 22)).alloc (.cells (iarr (on.map fun j : Nat => (j : Int))) 3))
      fun z w' => ∃ a n c, z = .returned (.tuple #[.slice a n c, .int .i64 e]) ∧ Ints w' a n c r ∧ Below w.heap.size w w' := by
  have hB : Below w.heap.size w ((((w.alloc (.cells (iarr xs) 3)).alloc (.cells (iarr ys) 3)).alloc (.cells #[.slice (some ⟨w.heap.size, 0, none⟩) k k, .slice (some ⟨w.heap.size + 1, 0, none⟩) k k] 22)).alloc (.cells (iarr (on.map fun j : Nat => (j : Int))) 3)) :=
    ((((Below.refl _ w).alloc (Nat.le_refl _) _).alloc (by simp) _).alloc (by simp; omega) _).alloc (by simp; omega) _
  have r1 := (((Row.new w 3 xs).alloc (.cells (iarr ys) 3)).alloc (.cells #[.slice (some ⟨w.heap.size, 0, none⟩) k k, .slice (some ⟨w.heap.size + 1, 0, none⟩) k k] 22)).alloc (.cells (iarr (on.map fun j : Nat => (j : Int))) 3)
  have r2 := ((Row.new' (w.alloc (.cells (iarr xs) 3)) 3 ys (B := w.heap.size + 1) (by simp)).alloc (.cells #[.slice (some ⟨w.heap.size, 0, none⟩) k k, .slice (some ⟨w.heap.size + 1, 0, none⟩) k k] 22)).alloc (.cells (iarr (on.map fun j : Nat => (j : Int))) 3)
  have r4 := Row.new' (((w.alloc (.cells (iarr xs) 3)).alloc (.cells (iarr ys) 3)).alloc (.cells #[.slice (some ⟨w.heap.size, 0, none⟩) k k, .slice (some ⟨w.heap.size + 1, 0, none⟩) k k] 22)) 3 (on.map fun j : Nat => (j : Int)) (B := w.heap.size + 1 + 1 + 1) (by simp)
  have i1 := r1.ints (by omega) (fun x hx' => by have := hbx x hx'; omega)
  have i2 := r2.ints (by omega) (fun x hx' => by have := hby x hx'; omega)
  have i4 := r4.ints (by simp; omega) (fun x hx' => by obtain ⟨j, hj, rfl⟩ := List.mem_map.1 hx'; have := hon j hj; omega)
  rw [hx] at i1
  rw [hy] at i2
  rw [List.length_map, ho] at i4
  have hc : ∀ j, j < 2 → (((((w.alloc (.cells (iarr xs) 3)).alloc (.cells (iarr ys) 3)).alloc (.cells #[.slice (some ⟨w.heap.size, 0, none⟩) k k, .slice (some ⟨w.heap.size + 1, 0, none⟩) k k] 22)).alloc (.cells (iarr (on.map fun j : Nat => (j : Int))) 3))).cell? ⟨w.heap.size + 1 + 1, j, none⟩ = some (.slice (some ⟨w.heap.size + j, 0, none⟩) k k) := by
    intro j hj
    obtain rfl | rfl : j = 0 ∨ j = 1 := by omega
    · simp [go_sem]
    · simp [go_sem]
  generalize hW : ((((w.alloc (.cells (iarr xs) 3)).alloc (.cells (iarr ys) 3)).alloc (.cells #[.slice (some ⟨w.heap.size, 0, none⟩) k k, .slice (some ⟨w.heap.size + 1, 0, none⟩) k k] 22)).alloc (.cells (iarr (on.map fun j : Nat => (j : Int))) 3)) = W at *
  have hR : Rows W (some ⟨w.heap.size + 1 + 1, 0, none⟩) 2 2 [xs, ys] := ⟨rfl, by omega, by omega, fun _ => ⟨_, _, rfl⟩, fun b o he j zs hz => by
    cases he
    match j, hz with
    | 0, hz => cases hz; exact ⟨_, _, _, hc 0 (by omega), i1⟩
    | 1, hz => cases hz; exact ⟨_, _, _, hc 1 (by omega), i2⟩⟩
  rcases hr with ⟨rfl, h1, h2, rfl⟩ | ⟨rfl, rfl, h1⟩
  · refine (First_yes _ _ 2 2 m m [xs, ys] k on W hR i4 h1 h2).mono ?_
    rintro z w' ⟨a, n, c, rfl, hi, hb⟩
    exact ⟨a, n, c, rfl, hi, hB.trans (hb.mono hB.size)⟩
  · refine (First_no _ _ 2 2 m m [xs, ys] k _ W hR i4 (by omega) h1).mono ?_
    rintro z w' ⟨a, n, c, rfl, hi, hb⟩
    exact ⟨a, n, c, rfl, hi, hB.trans (hb.mono hB.size)⟩

theorem sameLit (w w0 : World) (a : Option Addr) (n c : Nat) (xs ys : List Int) (m : Nat) (hi : Ints w0 a n c xs) (hb0 : Below w0.heap.size w0 w) (hy : ys.length = m) (hm : m ≤ 8) (hby : ∀ x, x ∈ ys → -1000000 ≤ x ∧ x ≤ 1000000) :
    Calls Try.prog 28 #[.slice a n c, .slice (some ⟨w.heap.size, 0, none⟩) m m] (w.alloc (.cells (iarr ys) 3)) fun e w' => e = .returned (.bool (decide (xs = ys))) ∧ Below w.heap.size w w' := by
  have i2 := (Row.new w 3 ys).ints (by omega) (fun x hx => by have := hby x hx; omega)
  rw [hy] at i2
  have hB : Below w.heap.size w (w.alloc (.cells (iarr ys) 3)) := (Below.refl _ w).alloc (Nat.le_refl _) _
  refine (same_any a _ n c m m xs ys _ (hi.below (hb0.trans (hB.mono hb0.size)) (Nat.le_refl _)) i2).mono ?_
  rintro e w' ⟨rfl, hb⟩
  exact ⟨rfl, hB.trans (hb.mono hB.size)⟩

set_option maxRecDepth 100000 in
set_option maxHeartbeats 1000000 in
theorem alive_any (w : World) : Calls Try.prog 25 #[] w fun e w' => e = .returned (.bool true) ∧ Below w.heap.size w w' := by
  go_enter Try.func25, Try.ntmps25
  go_wp2_with fail
  refine (firstLit w [5, 2] [4, 0] 2 2 [0, 1] rfl rfl rfl (by omega) (by omega) (by decide) (by decide) (by decide) 0 [1, 0] (.inl ⟨rfl, by decide, by decide, by decide +kernel⟩)).mono ?_
  rintro e w1 ⟨a1, n1, c1, rfl, hi, hb⟩
  have HI1 := Lib.hid hi; clear hi
  have HB1 := Lib.hid hb; clear hb
  go_wp2_with fail
  refine (firstLit w1 [5, 5] [5, 5] 2 2 [1, 0] rfl rfl rfl (by omega) (by omega) (by decide) (by decide) (by decide) 0 [1, 0] (.inl ⟨rfl, by decide, by decide, by decide +kernel⟩)).mono ?_
  rintro e w2 ⟨a2, n2, c2, rfl, hi, hb⟩
  have HI2 := Lib.hid hi; clear hi
  have HB2 := Lib.hid hb; clear hb
  go_wp2_with fail
  refine (firstLit w2 [0, 0] [0, 0] 2 2 [0, 1] rfl rfl rfl (by omega) (by omega) (by decide) (by decide) (by decide) 0 [0, 1] (.inl ⟨rfl, by decide, by decide, by decide +kernel⟩)).mono ?_
  rintro e w3 ⟨a3, n3, c3, rfl, hi, hb⟩
  have HI3 := Lib.hid hi; clear hi
  have HB3 := Lib.hid hb; clear hb
  go_wp2_with fail
  refine (firstLit w3 [-1] [0] 1 2 [0, 1] rfl rfl rfl (by omega) (by omega) (by decide) (by decide) (by decide) 0 [-1, 0] (.inl ⟨rfl, by decide, by decide, by decide +kernel⟩)).mono ?_
  rintro e w4 ⟨a4, n4, c4, rfl, hi, hb⟩
  have HI4 := Lib.hid hi; clear hi
  have HB4 := Lib.hid hb; clear hb
  go_wp2_with fail
  refine (firstLit w4 [0] [0] 1 2 [0, 0] rfl rfl rfl (by omega) (by omega) (by decide) (by decide) (by decide) 1 [] (.inr ⟨rfl, rfl, by decide⟩)).mono ?_
  rintro e w5 ⟨a5, n5, c5, rfl, hi, hb⟩
  have HI5 := Lib.hid hi; clear hi
  have HB5 := Lib.hid hb; clear hb
  have HB12 := Lib.hid (HB1.out.trans (HB2.out.mono HB1.out.size))
  have HB13 := Lib.hid (HB12.out.trans (HB3.out.mono HB12.out.size))
  have HB14 := Lib.hid (HB13.out.trans (HB4.out.mono HB13.out.size))
  have HB15 := Lib.hid (HB14.out.trans (HB5.out.mono HB14.out.size))
  have HC45 := Lib.hid HB5.out
  have HC35 := Lib.hid (HB4.out.trans (HC45.out.mono HB4.out.size))
  have HC25 := Lib.hid (HB3.out.trans (HC35.out.mono HB3.out.size))
  have HC15 := Lib.hid (HB2.out.trans (HC25.out.mono HB2.out.size))
  go_wp2_with fail
  refine (sameLit w5 w1 a1 n1 c1 [1, 0] [1, 0] 2 HI1.out HC15.out rfl (by omega) (by decide)).mono ?_
  rintro e w6 ⟨rfl, hb⟩
  have HB6 := Lib.hid hb; clear hb
  go_wp2_with fail
  refine (sameLit w6 w2 a2 n2 c2 [1, 0] [1, 0] 2 HI2.out (HC25.out.trans (HB6.out.mono HC25.out.size)) rfl (by omega) (by decide)).mono ?_
  rintro e w7 ⟨rfl, hb⟩
  have HB7 := Lib.hid (HB6.out.trans (hb.mono HB6.out.size)); clear hb
  go_wp2_with fail
  refine (sameLit w7 w3 a3 n3 c3 [0, 1] [0, 1] 2 HI3.out (HC35.out.trans (HB7.out.mono HC35.out.size)) rfl (by omega) (by decide)).mono ?_
  rintro e w8 ⟨rfl, hb⟩
  have HB8 := Lib.hid (HB7.out.trans (hb.mono HB7.out.size)); clear hb
  go_wp2_with fail
  refine (sameLit w8 w4 a4 n4 c4 [-1, 0] [-1, 0] 2 HI4.out (HC45.out.trans (HB8.out.mono HC45.out.size)) rfl (by omega) (by decide)).mono ?_
  rintro e w9 ⟨rfl, hb⟩
  have HB9 := Lib.hid (HB8.out.trans (hb.mono HB8.out.size)); clear hb
  go_wp2_with fail
  go_ret
  exact ⟨rfl, HB15.out.trans (HB9.out.mono HB15.out.size)⟩
end Go.Proofs.Ytbnjeegicbffeaa
