/- Walks: salesroomlaw14.lives. -/
import Derived.Test.YtbnjeegicbffeaaPy4
import Derived.Test.YtbnjeegicbffeaaLm
import Derived.Test.YtbnjeegicbffeaaSame
namespace Go.Proofs.Ytbnjeegicbffeaa
open Go.RowKit Sale

set_option maxRecDepth 100000 in
set_option maxHeartbeats 2000000 in
theorem lives14_any (w : World) : Calls Try.prog 37 #[] w fun e w' => e = .returned (.bool true) ∧ Below w.heap.size w w' := by
  have H0 := Lib.hid (m1_at w)
  go_enter Try.func37, Try.ntmps37
  go_wp2_with fail
  refine (Lost_yes _ _ _ 1 1 2 2 2 2 0 m1 (m1w w) H0.out.mkt (by decide) (by omega)).mono ?_
  rw [show lostM m1 0 = 3 by decide +kernel]
  rintro e w1 ⟨rfl, hb⟩
  have H1 := Lib.hid (H0.out.step hb); clear hb
  have c0 := H1.out.row.cell (k := 0) rfl
  have c1 := H1.out.row.cell (k := 1) rfl
  have c2 := H1.out.row.cell (k := 2) rfl
  go_wp2_with fail
  refine (Lost_yes _ _ _ 1 1 2 2 2 2 1 m1 w1 H1.out.mkt (by decide) (by omega)).mono ?_
  rw [show lostM m1 1 = 0 by decide +kernel]
  rintro e w2 ⟨rfl, hb⟩
  have H2 := Lib.hid (H1.out.step hb); clear hb
  clear c0 c1 c2
  have c0 := H2.out.row.cell (k := 0) rfl
  have c1 := H2.out.row.cell (k := 1) rfl
  have c2 := H2.out.row.cell (k := 2) rfl
  go_wp2_with fail
  have H2' := Lib.hid (H2.out.step ((Below.refl _ _).alloc (Nat.le_refl _) (.cells (iarr [0, -1]) 3)))
  refine (PayOf_any _ _ _ _ 1 1 2 2 2 2 2 2 m1 [0, -1] (w2.alloc (.cells (iarr [0, -1]) 3)) H2'.out.mkt (lit_ints w2 [0, -1] 2 rfl (by omega) (by decide))).mono ?_
  rw [show (mcheck m1 && mayB m1 [0, -1]) = true by decide +kernel, show payL m1 [0, -1] = [5, 0] by decide +kernel]
  rintro e w3 ⟨a3, n3, cp3, rfl, hi3, hb⟩
  have H3 := Lib.hid (H2'.out.step hb); clear hb
  have HI3 := Lib.hid hi3; clear hi3
  clear c0 c1 c2
  have c0 := H3.out.row.cell (k := 0) rfl
  have c1 := H3.out.row.cell (k := 1) rfl
  have c2 := H3.out.row.cell (k := 2) rfl
  go_wp2_with fail
  have H3' := Lib.hid (H3.out.step ((Below.refl _ _).alloc (Nat.le_refl _) (.cells (iarr [0, 0]) 3)))
  refine (PayOf_any _ _ _ _ 1 1 2 2 2 2 2 2 m1 [0, 0] (w3.alloc (.cells (iarr [0, 0]) 3)) H3'.out.mkt (lit_ints w3 [0, 0] 2 rfl (by omega) (by decide))).mono ?_
  rw [show (mcheck m1 && mayB m1 [0, 0]) = false by decide +kernel]
  rintro e w4 ⟨a4, n4, cp4, rfl, _, hb⟩
  have HI4 := Lib.hid ((HI3.out.alloc (.cells (iarr [0, 0]) 3)).below hb (Nat.le_refl _))
  have H4 := Lib.hid (H3'.out.step hb); clear hb
  clear c0 c1 c2
  go_wp2_with fail
  refine (same_any a3 _ n3 cp3 2 2 [5, 0] [5, 0] (w4.alloc (.cells (iarr [5, 0]) 3)) (HI4.out.alloc _) (lit_ints w4 [5, 0] 2 rfl (by omega) (by decide))).mono ?_
  rw [decide_eq_true rfl]
  rintro e w5 ⟨rfl, hb⟩
  have H5 := Lib.hid ((H4.out.step ((Below.refl _ _).alloc (Nat.le_refl _) (.cells (iarr [5, 0]) 3))).step hb); clear hb
  go_wp2_with fail
  go_ret
  exact ⟨rfl, H5.out.below⟩
end Go.Proofs.Ytbnjeegicbffeaa
