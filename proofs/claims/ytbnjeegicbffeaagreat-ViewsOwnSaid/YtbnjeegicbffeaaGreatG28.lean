/- The markets of the chapters' examples, as the laws' texts make them. Walks: are two lists the same? Walks: salesroomlaw14.lives. -/
import Derived.Test.YtbnjeegicbffeaaGreatG19
import Derived.Test.YtbnjeegicbffeaaGreatG00
import Derived.Test.YtbnjeegicbffeaaGreatRows
import Derived.Test.YtbnjeegicbffeaaGreatG27
import Derived.BigRegion
/- The markets of the chapters' examples, as the laws' texts make them. -/
namespace Go.Proofs.YtbnjeegicbffeaaGreat
open Go.RowKit

def m1 : Mkt := ⟨[2], [[9], [5]], [0, 1]⟩
/-- the world in which it is made -/
def m1w (w : World) : World := (((((w.alloc (.cells #[.int .i64 2] 3)).alloc (.cells #[.int .i64 9] 3)).alloc (.cells #[.int .i64 5] 3)).alloc (.cells #[.slice (some ⟨w.heap.size + 1, 0, none⟩) 1 1, .slice (some ⟨w.heap.size + 1 + 1, 0, none⟩) 1 1] 23)).alloc (.cells #[.int .i64 0, .int .i64 1] 3)).alloc
  (.cells #[.slice (some ⟨w.heap.size, 0, none⟩) 1 1, .slice (some ⟨w.heap.size + 1 + 1 + 1, 0, none⟩) 2 2, .slice (some ⟨w.heap.size + 1 + 1 + 1 + 1, 0, none⟩) 2 2] 28)
structure M1At (w W : World) : Prop where
  mkt : MktAt W (some ⟨w.heap.size, 0, none⟩) (some ⟨w.heap.size + 1 + 1 + 1, 0, none⟩) (some ⟨w.heap.size + 1 + 1 + 1 + 1, 0, none⟩) 1 1 2 2 2 2 m1
  row : VRow W (w.heap.size + 1 + 1 + 1 + 1 + 1) 28 [.slice (some ⟨w.heap.size, 0, none⟩) 1 1, .slice (some ⟨w.heap.size + 1 + 1 + 1, 0, none⟩) 2 2, .slice (some ⟨w.heap.size + 1 + 1 + 1 + 1, 0, none⟩) 2 2]
  below : Below w.heap.size w W
theorem M1At.step {w W W' : World} (h : M1At w W) (hb : Below W.heap.size W W') : M1At w W' :=
  ⟨h.mkt.below hb (Nat.le_refl _), h.row.below hb h.row.lt, h.below.trans (hb.mono h.below.size)⟩

/-- rows of a table that is made of lists of integers -/
theorem rows_lit {W : World} {B n : Nat} {vals : List Value} {xss : List (List Int)} (hV : VRow W B 23 vals) (hl : vals.length = n) (hn : xss.length = n) (hb : n ≤ 100)
    (h : ∀ (i : Nat) (xs : List Int), xss[i]? = some xs → ∃ (a : Option Addr) (c : Nat), vals[i]? = some (Value.slice a xs.length c) ∧ Ints W a xs.length c xs) : Rows W (some ⟨B, 0, none⟩) n n xss := by
  have := hV.rows (xss := xss) (by omega) fun i xs hi => by
    obtain ⟨a, c, h1, h2⟩ := h i xs hi
    exact ⟨a, xs.length, c, h1, h2⟩
  rwa [hn] at this

theorem row_lit {W : World} {B : Nat} {xs : List Int} {n : Nat} (h : Row W B 3 xs) (hn : xs.length = n) (hb : n ≤ 100) (hx : ∀ x, x ∈ xs → -1000 ≤ x ∧ x ≤ 1000) : Ints W (some ⟨B, 0, none⟩) n n xs := by
  have := h.ints (by omega) (fun x h => by have := hx x h; omega)
  rwa [hn] at this

theorem m1_at (w : World) : M1At w (m1w w) := by
  have hB : Below w.heap.size w (m1w w) := (((((Below.refl _ w).alloc (Nat.le_refl _) _).alloc (by simp) _).alloc (by simp; omega) _).alloc (by simp; omega) _).alloc (by simp; omega) _ |>.alloc (by simp; omega) _
  have r0 : Row (m1w w) w.heap.size 3 [2] := (((((Row.new w 3 [2]).alloc _).alloc _).alloc _).alloc _).alloc _
  have r1 : Row (m1w w) (w.heap.size + 1) 3 [9] := ((((Row.new' (w.alloc (.cells #[.int .i64 2] 3)) 3 [9] (by simp)).alloc _).alloc _).alloc _).alloc _
  have r2 : Row (m1w w) (w.heap.size + 1 + 1) 3 [5] := (((Row.new' ((w.alloc (.cells #[.int .i64 2] 3)).alloc (.cells #[.int .i64 9] 3)) 3 [5] (by simp)).alloc _).alloc _).alloc _
  have r4 : Row (m1w w) (w.heap.size + 1 + 1 + 1 + 1) 3 [0, 1] := (Row.new' _ 3 [0, 1] (by simp)).alloc _
  have v3 : VRow (m1w w) (w.heap.size + 1 + 1 + 1) 23 [.slice (some ⟨w.heap.size + 1, 0, none⟩) 1 1, .slice (some ⟨w.heap.size + 1 + 1, 0, none⟩) 1 1] := by
    have h := VRow.new (((w.alloc (.cells #[.int .i64 2] 3)).alloc (.cells #[.int .i64 9] 3)).alloc (.cells #[.int .i64 5] 3)) 23 [.slice (some ⟨w.heap.size + 1, 0, none⟩) 1 1, .slice (some ⟨w.heap.size + 1 + 1, 0, none⟩) 1 1]
    rw [show (((w.alloc (.cells #[.int .i64 2] 3)).alloc (.cells #[.int .i64 9] 3)).alloc (.cells #[.int .i64 5] 3)).heap.size = w.heap.size + 1 + 1 + 1 by simp] at h
    exact (h.alloc _).alloc _
  refine ⟨⟨row_lit r0 rfl (by omega) (by decide), rows_lit v3 rfl rfl (by omega) fun i xs hi => ?_, row_lit r4 rfl (by omega) (by decide)⟩, ?_, hB⟩
  · match i, hi with
    | 0, hi => cases hi; exact ⟨_, _, rfl, row_lit r1 rfl (by decide) (by decide)⟩
    | 1, hi => cases hi; exact ⟨_, _, rfl, row_lit r2 rfl (by decide) (by decide)⟩
  · have h := VRow.new (((((w.alloc (.cells #[.int .i64 2] 3)).alloc (.cells #[.int .i64 9] 3)).alloc (.cells #[.int .i64 5] 3)).alloc (.cells #[.slice (some ⟨w.heap.size + 1, 0, none⟩) 1 1, .slice (some ⟨w.heap.size + 1 + 1, 0, none⟩) 1 1] 23)).alloc (.cells #[.int .i64 0, .int .i64 1] 3)) 28 [.slice (some ⟨w.heap.size, 0, none⟩) 1 1, .slice (some ⟨w.heap.size + 1 + 1 + 1, 0, none⟩) 2 2, .slice (some ⟨w.heap.size + 1 + 1 + 1 + 1, 0, none⟩) 2 2]
    rw [show (((((w.alloc (.cells #[.int .i64 2] 3)).alloc (.cells #[.int .i64 9] 3)).alloc (.cells #[.int .i64 5] 3)).alloc (.cells #[.slice (some ⟨w.heap.size + 1, 0, none⟩) 1 1, .slice (some ⟨w.heap.size + 1 + 1, 0, none⟩) 1 1] 23)).alloc (.cells #[.int .i64 0, .int .i64 1] 3)).heap.size = w.heap.size + 1 + 1 + 1 + 1 + 1 by simp] at h
    exact h

/-- a list of integers in a world of its own block -/
theorem lit_ints (w : World) (xs : List Int) (n : Nat) (hn : xs.length = n) (hb : n ≤ 100) (hx : ∀ x, x ∈ xs → -1000 ≤ x ∧ x ≤ 1000) : Ints (w.alloc (.cells (iarr xs) 3)) (some ⟨w.heap.size, 0, none⟩) n n xs := row_lit (Row.new w _ xs) hn hb hx
end Go.Proofs.YtbnjeegicbffeaaGreat

/- Walks: are two lists the same? -/
namespace Go.Proofs.YtbnjeegicbffeaaGreat
open Go.RowKit

theorem same_any (a b : Option Addr) (n c m d : Nat) (xs ys : List Int) (w : World) (hx : Ints w a n c xs) (hy : Ints w b m d ys) :
    Calls Tryz.prog 20 #[.slice a n c, .slice b m d] w fun e w' => e = .returned (.bool (decide (xs = ys))) ∧ Below w.heap.size w w' := by
  have HX := Lib.hid hx.len
  have HY := Lib.hid hy.len
  by_cases hl : n = m
  · subst hl
    have H1 := Lib.hid hx; clear hx
    have H2 := Lib.hid hy; clear hy
    have hbig := H1.out.big
    go_enter Tryz.func20, Tryz.ntmps20
    go_wp2_with fail
    go_loopg [5] n (fun g s7 wr => ∃ k : Nat, k + g = n ∧ s7 = .int .i64 k ∧ Below w.heap.size w wr ∧ xs.take k = ys.take k)
    case atStart => exact ⟨0, by omega, rfl, Below.refl _ _, rfl⟩
    case round =>
      obtain ⟨k, hk, rfl, hB, ht⟩ := hrel
      have HT := Lib.hid ht; clear ht
      by_cases hlt : k < n
      · obtain ⟨x, hx, _⟩ := H1.out.get hlt
        obtain ⟨y, hy, _⟩ := H2.out.get hlt
        obtain ⟨b1, o1, rfl⟩ := H1.out.addr (by omega)
        obtain ⟨b2, o2, rfl⟩ := H2.out.addr (by omega)
        have hc1 := (H1.out.below hB (Nat.le_refl _)).cell b1 o1 rfl k x hx
        have hc2 := (H2.out.below hB (Nat.le_refl _)).cell b2 o2 rfl k y hy
        have HB := Lib.hid hB; clear hB
        have HK := Lib.hid hk; clear hk
        have HXK := Lib.hid hx; clear hx
        have HYK := Lib.hid hy; clear hy
        go_wp2_with fail
        go_region
        by_cases hxy : x = y
        · subst hxy
          go_wp2_with fail
          go_roundg (gk - 1)
          case measure => have := HK.out; omega
          case rel => exact ⟨k + 1, by have := HK.out; omega, by go_num, HB.out.drew, by rw [List.take_add_one, List.take_add_one, HXK.out, HYK.out, HT.out]⟩
        · have e1 : (x != y) = true := by simp [hxy]
          have HN := Lib.hid hxy; clear hxy
          go_wp2_with fail
          go_ret
          refine ⟨ret_bool ?_, HB.out.drew⟩
          symm
          rw [decide_eq_false_iff_not]
          intro h
          have := HXK.out
          rw [h, HYK.out] at this
          cases this
          exact HN.out rfl
      · obtain rfl : k = n := by omega
        go_wp2_with fail
        go_ret
        refine ⟨ret_bool ?_, hB⟩
        symm
        rw [decide_eq_true_eq]
        have := HT.out
        rwa [List.take_of_length_le (by rw [HX.out]; exact Nat.le_refl _), List.take_of_length_le (by rw [HY.out]; exact Nat.le_refl _)] at this
  · have e1 : ((n : Int) != (m : Int)) = true := by simp; omega
    clear hx hy
    have HL := Lib.hid hl; clear hl
    go_enter Tryz.func20, Tryz.ntmps20
    go_wp2_with fail
    go_ret
    refine ⟨ret_bool ?_, Below.refl _ _⟩
    symm
    rw [decide_eq_false_iff_not]
    rintro rfl
    exact HL.out (HX.out.symm.trans HY.out)
end Go.Proofs.YtbnjeegicbffeaaGreat

/- Walks: salesroomlaw14.lives. -/
namespace Go.Proofs.YtbnjeegicbffeaaGreat
open Go.RowKit Sale

set_option maxRecDepth 100000 in
set_option maxHeartbeats 2000000 in
theorem lives14_any (w : World) : Calls Tryz.prog 32 #[] w fun e w' => e = .returned (.bool true) ∧ Below w.heap.size w w' := by
  have H0 := Lib.hid (m1_at w)
  go_enter Tryz.func32, Tryz.ntmps32
  go_wp2_with fail
  refine (Lost_yes _ _ _ 1 1 2 2 2 2 0 m1 (m1w w) H0.out.mkt (by decide) (by omega)).mono ?_
  rw [show lostM m1 0 = 3 by decide +kernel]
  rintro e w1 ⟨rfl, hb⟩
  have H1 := Lib.hid (H0.out.step hb); clear hb
  have c0 := H1.out.row.cell (k := 0) rfl
  have c1 := H1.out.row.cell (k := 1) rfl
  have c2 := H1.out.row.cell (k := 2) rfl
  go_wp2_with fail
  refine (Lost_yes _ _ _ 1 1 2 2 2 2 1 m1 w1 H1.out.mkt (by decide) (by omega)).mono ?_
  rw [show lostM m1 1 = 0 by decide +kernel]
  rintro e w2 ⟨rfl, hb⟩
  have H2 := Lib.hid (H1.out.step hb); clear hb
  clear c0 c1 c2
  have c0 := H2.out.row.cell (k := 0) rfl
  have c1 := H2.out.row.cell (k := 1) rfl
  have c2 := H2.out.row.cell (k := 2) rfl
  go_wp2_with fail
  have H2' := Lib.hid (H2.out.step ((Below.refl _ _).alloc (Nat.le_refl _) (.cells (iarr [0, -1]) 3)))
  refine (PayOf_any _ _ _ _ 1 1 2 2 2 2 2 2 m1 [0, -1] (w2.alloc (.cells (iarr [0, -1]) 3)) H2'.out.mkt (lit_ints w2 [0, -1] 2 rfl (by omega) (by decide))).mono ?_
  rw [show (mcheck m1 && mayB m1 [0, -1]) = true by decide +kernel, show payL m1 [0, -1] = [5, 0] by decide +kernel]
  rintro e w3 ⟨a3, n3, cp3, rfl, hi3, hb⟩
  have H3 := Lib.hid (H2'.out.step hb); clear hb
  have HI3 := Lib.hid hi3; clear hi3
  clear c0 c1 c2
  have c0 := H3.out.row.cell (k := 0) rfl
  have c1 := H3.out.row.cell (k := 1) rfl
  have c2 := H3.out.row.cell (k := 2) rfl
  go_wp2_with fail
  have H3' := Lib.hid (H3.out.step ((Below.refl _ _).alloc (Nat.le_refl _) (.cells (iarr [0, 0]) 3)))
  refine (PayOf_any _ _ _ _ 1 1 2 2 2 2 2 2 m1 [0, 0] (w3.alloc (.cells (iarr [0, 0]) 3)) H3'.out.mkt (lit_ints w3 [0, 0] 2 rfl (by omega) (by decide))).mono ?_
  rw [show (mcheck m1 && mayB m1 [0, 0]) = false by decide +kernel]
  rintro e w4 ⟨a4, n4, cp4, rfl, _, hb⟩
  have HI4 := Lib.hid ((HI3.out.alloc (.cells (iarr [0, 0]) 3)).below hb (Nat.le_refl _))
  have H4 := Lib.hid (H3'.out.step hb); clear hb
  clear c0 c1 c2
  go_wp2_with fail
  refine (same_any a3 _ n3 cp3 2 2 [5, 0] [5, 0] (w4.alloc (.cells (iarr [5, 0]) 3)) (HI4.out.alloc _) (lit_ints w4 [5, 0] 2 rfl (by omega) (by decide))).mono ?_
  rw [decide_eq_true rfl]
  rintro e w5 ⟨rfl, hb⟩
  have H5 := Lib.hid ((H4.out.step ((Below.refl _ _).alloc (Nat.le_refl _) (.cells (iarr [5, 0]) 3))).step hb); clear hb
  go_wp2_with fail
  go_ret
  exact ⟨rfl, H5.out.below⟩
end Go.Proofs.YtbnjeegicbffeaaGreat
