/- The markets of the chapters' examples, as the laws' texts make them. The second market of the chapters' examples, as the laws' texts make it. Walks: salesroomlaw15.lives. -/
import Derived.Test.YtkddkkcfpnndlaaGreatDoorOq09
import Derived.Test.YtkddkkcfpnndlaaGreatDoorOq39
import Derived.Test.YtkddkkcfpnndlaaGreatDoorOq35
namespace Go.Proofs.YtkddkkcfpnndlaaGreatDoor
open Go.RowKit

def m1 : Mkt := ⟨[2], [[9], [5]], [0, 1]⟩
def m1w (w : World) : World := (((((w.alloc (.cells #[.int .i64 2] 3)).alloc (.cells #[.int .i64 9] 3)).alloc (.cells #[.int .i64 5] 3)).alloc (.cells #[.slice (some ⟨w.heap.size + 1, 0, none⟩) 1 1, .slice (some ⟨w.heap.size + 1 + 1, 0, none⟩) 1 1] 25)).alloc (.cells #[.int .i64 0, .int .i64 1] 3)).alloc
 (.cells #[.slice (some ⟨w.heap.size, 0, none⟩) 1 1, .slice (some ⟨w.heap.size + 1 + 1 + 1, 0, none⟩) 2 2, .slice (some ⟨w.heap.size + 1 + 1 + 1 + 1, 0, none⟩) 2 2] 57)
structure M1At (w W : World) : Prop where
 mkt : MktAt W (some ⟨w.heap.size, 0, none⟩) (some ⟨w.heap.size + 1 + 1 + 1, 0, none⟩) (some ⟨w.heap.size + 1 + 1 + 1 + 1, 0, none⟩) 1 1 2 2 2 2 m1
 row : VRow W (w.heap.size + 1 + 1 + 1 + 1 + 1) 57 [.slice (some ⟨w.heap.size, 0, none⟩) 1 1, .slice (some ⟨w.heap.size + 1 + 1 + 1, 0, none⟩) 2 2, .slice (some ⟨w.heap.size + 1 + 1 + 1 + 1, 0, none⟩) 2 2]
 below : Below w.heap.size w W
theorem M1At.step {w W W' : World} (h : M1At w W) (hb : Below W.heap.size W W') : M1At w W' :=
 ⟨h.mkt.below hb (Nat.le_refl _), h.row.below hb h.row.lt, h.below.trans (hb.mono h.below.size)⟩

theorem rows_lit {W : World} {B n : Nat} {vals : List Value} {xss : List (List Int)} (hV : VRow W B 25 vals) (hl : vals.length = n) (hn : xss.length = n) (hb : n ≤ 100)
   (h : ∀ (i : Nat) (xs : List Int), xss[i]? = some xs → ∃ (a : Option Addr) (c : Nat), vals[i]? = some (Value.slice a xs.length c) ∧ Ints W a xs.length c xs) : Rows W (some ⟨B, 0, none⟩) n n xss := by
 have := hV.rows (xss := xss) (by omega) fun i xs hi => by
   obtain ⟨a, c, h1, h2⟩ := h i xs hi
   exact ⟨a, xs.length, c, h1, h2⟩
 rwa [hn] at this

theorem row_lit {W : World} {B : Nat} {xs : List Int} {n : Nat} (h : Row W B 3 xs) (hn : xs.length = n) (hb : n ≤ 100) (hx : ∀ x, x ∈ xs → -1000 ≤ x ∧ x ≤ 1000) : Ints W (some ⟨B, 0, none⟩) n n xs := by
 have := h.ints (by omega) (fun x h => by have := hx x h; omega)
 rwa [hn] at this

theorem m1_at (w : World) : M1At w (m1w w) := by
 have hB : Below w.heap.size w (m1w w) := (((((Below.refl _ w).alloc (Nat.le_refl _) _).alloc (by simp) _).alloc (by simp; omega) _).alloc (by simp; omega) _).alloc (by simp; omega) _ |>.alloc (by simp; omega) _
 have r0 : Row (m1w w) w.heap.size 3 [2] := (((((Row.new w 3 [2]).alloc _).alloc _).alloc _).alloc _).alloc _
 have r1 : Row (m1w w) (w.heap.size + 1) 3 [9] := ((((Row.new' (w.alloc (.cells #[.int .i64 2] 3)) 3 [9] (by simp)).alloc _).alloc _).alloc _).alloc _
 have r2 : Row (m1w w) (w.heap.size + 1 + 1) 3 [5] := (((Row.new' ((w.alloc (.cells #[.int .i64 2] 3)).alloc (.cells #[.int .i64 9] 3)) 3 [5] (by simp)).alloc _).alloc _).alloc _
 have r4 : Row (m1w w) (w.heap.size + 1 + 1 + 1 + 1) 3 [0, 1] := (Row.new' _ 3 [0, 1] (by simp)).alloc _
 have v3 : VRow (m1w w) (w.heap.size + 1 + 1 + 1) 25 [.slice (some ⟨w.heap.size + 1, 0, none⟩) 1 1, .slice (some ⟨w.heap.size + 1 + 1, 0, none⟩) 1 1] := by
   have h := VRow.new (((w.alloc (.cells #[.int .i64 2] 3)).alloc (.cells #[.int .i64 9] 3)).alloc (.cells #[.int .i64 5] 3)) 25 [.slice (some ⟨w.heap.size + 1, 0, none⟩) 1 1, .slice (some ⟨w.heap.size + 1 + 1, 0, none⟩) 1 1]
   rw [show (((w.alloc (.cells #[.int .i64 2] 3)).alloc (.cells #[.int .i64 9] 3)).alloc (.cells #[.int .i64 5] 3)).heap.size = w.heap.size + 1 + 1 + 1 by simp] at h
   exact (h.alloc _).alloc _
 refine ⟨⟨row_lit r0 rfl (by omega) (by decide), rows_lit v3 rfl rfl (by omega) fun i xs hi => ?_, row_lit r4 rfl (by omega) (by decide)⟩, ?_, hB⟩
 · match i, hi with
   | 0, hi => cases hi; exact ⟨_, _, rfl, row_lit r1 rfl (by decide) (by decide)⟩
   | 1, hi => cases hi; exact ⟨_, _, rfl, row_lit r2 rfl (by decide) (by decide)⟩
 · have h := VRow.new (((((w.alloc (.cells #[.int .i64 2] 3)).alloc (.cells #[.int .i64 9] 3)).alloc (.cells #[.int .i64 5] 3)).alloc (.cells #[.slice (some ⟨w.heap.size + 1, 0, none⟩) 1 1, .slice (some ⟨w.heap.size + 1 + 1, 0, none⟩) 1 1] 25)).alloc (.cells #[.int .i64 0, .int .i64 1] 3)) 57 [.slice (some ⟨w.heap.size, 0, none⟩) 1 1, .slice (some ⟨w.heap.size + 1 + 1 + 1, 0, none⟩) 2 2, .slice (some ⟨w.heap.size + 1 + 1 + 1 + 1, 0, none⟩) 2 2]
   rw [show (((((w.alloc (.cells #[.int .i64 2] 3)).alloc (.cells #[.int .i64 9] 3)).alloc (.cells #[.int .i64 5] 3)).alloc (.cells #[.slice (some ⟨w.heap.size + 1, 0, none⟩) 1 1, .slice (some ⟨w.heap.size + 1 + 1, 0, none⟩) 1 1] 25)).alloc (.cells #[.int .i64 0, .int .i64 1] 3)).heap.size = w.heap.size + 1 + 1 + 1 + 1 + 1 by simp] at h
   exact h

end Go.Proofs.YtkddkkcfpnndlaaGreatDoor

namespace Go.Proofs.YtkddkkcfpnndlaaGreatDoor
open Go.RowKit

def m2 : Mkt := ⟨[0, 0], [[4, 4], [4, 4], [3, 0]], [0, 1, 2]⟩
def m2w (w : World) (N : Nat) : World := (((((((w.alloc (.cells #[.int .i64 0, .int .i64 0] 3)).alloc (.cells #[.int .i64 4, .int .i64 4] 3)).alloc (.cells #[.int .i64 4, .int .i64 4] 3)).alloc (.cells #[.int .i64 3, .int .i64 0] 3)).alloc (.cells #[.slice (some ⟨N + 1, 0, none⟩) 2 2, .slice (some ⟨N + 1 + 1, 0, none⟩) 2 2, .slice (some ⟨N + 1 + 1 + 1, 0, none⟩) 2 2] 25)).alloc (.cells #[.int .i64 0, .int .i64 1, .int .i64 2] 3)).alloc (.cells #[.slice (some ⟨N, 0, none⟩) 2 2, .slice (some ⟨N + 1 + 1 + 1 + 1, 0, none⟩) 3 3, .slice (some ⟨N + 1 + 1 + 1 + 1 + 1, 0, none⟩) 3 3] 57))
structure M2At (w : World) (N : Nat) (W : World) : Prop where
 mkt : MktAt W (some ⟨N, 0, none⟩) (some ⟨N + 1 + 1 + 1 + 1, 0, none⟩) (some ⟨N + 1 + 1 + 1 + 1 + 1, 0, none⟩) 2 2 3 3 3 3 m2
 row : VRow W (N + 1 + 1 + 1 + 1 + 1 + 1) 57 [.slice (some ⟨N, 0, none⟩) 2 2, .slice (some ⟨N + 1 + 1 + 1 + 1, 0, none⟩) 3 3, .slice (some ⟨N + 1 + 1 + 1 + 1 + 1, 0, none⟩) 3 3]
 below : Below w.heap.size w W
theorem M2At.step {w W W' : World} {N : Nat} (h : M2At w N W) (hb : Below W.heap.size W W') : M2At w N W' :=
 ⟨h.mkt.below hb (Nat.le_refl _), h.row.below hb h.row.lt, h.below.trans (hb.mono h.below.size)⟩
theorem m2_at (w : World) (N : Nat) (hN : w.heap.size = N) : M2At w N (m2w w N) := by
 subst hN
 have hB : Below w.heap.size w (m2w w w.heap.size) := (((((((Below.refl _ w).alloc (Nat.le_refl _) _).alloc (by simp) _).alloc (by simp; omega) _).alloc (by simp; omega) _).alloc (by simp; omega) _).alloc (by simp; omega) _).alloc (by simp; omega) _
 have r0 : Row (m2w w w.heap.size) (w.heap.size) 3 [0, 0] := (((((((Row.new' (w) 3 [0, 0] (by simp)).alloc _).alloc _).alloc _).alloc _).alloc _).alloc _)
 have r1 : Row (m2w w w.heap.size) (w.heap.size + 1) 3 [4, 4] := ((((((Row.new' ((w.alloc (.cells #[.int .i64 0, .int .i64 0] 3))) 3 [4, 4] (by simp)).alloc _).alloc _).alloc _).alloc _).alloc _)
 have r2 : Row (m2w w w.heap.size) (w.heap.size + 1 + 1) 3 [4, 4] := (((((Row.new' (((w.alloc (.cells #[.int .i64 0, .int .i64 0] 3)).alloc (.cells #[.int .i64 4, .int .i64 4] 3))) 3 [4, 4] (by simp)).alloc _).alloc _).alloc _).alloc _)
 have r3 : Row (m2w w w.heap.size) (w.heap.size + 1 + 1 + 1) 3 [3, 0] := ((((Row.new' ((((w.alloc (.cells #[.int .i64 0, .int .i64 0] 3)).alloc (.cells #[.int .i64 4, .int .i64 4] 3)).alloc (.cells #[.int .i64 4, .int .i64 4] 3))) 3 [3, 0] (by simp)).alloc _).alloc _).alloc _)
 have r5 : Row (m2w w w.heap.size) (w.heap.size + 1 + 1 + 1 + 1 + 1) 3 [0, 1, 2] := ((Row.new' ((((((w.alloc (.cells #[.int .i64 0, .int .i64 0] 3)).alloc (.cells #[.int .i64 4, .int .i64 4] 3)).alloc (.cells #[.int .i64 4, .int .i64 4] 3)).alloc (.cells #[.int .i64 3, .int .i64 0] 3)).alloc (.cells #[.slice (some ⟨w.heap.size + 1, 0, none⟩) 2 2, .slice (some ⟨w.heap.size + 1 + 1, 0, none⟩) 2 2, .slice (some ⟨w.heap.size + 1 + 1 + 1, 0, none⟩) 2 2] 25))) 3 [0, 1, 2] (by simp)).alloc _)
 have v4 : VRow (m2w w w.heap.size) (w.heap.size + 1 + 1 + 1 + 1) 25 [.slice (some ⟨w.heap.size + 1, 0, none⟩) 2 2, .slice (some ⟨w.heap.size + 1 + 1, 0, none⟩) 2 2, .slice (some ⟨w.heap.size + 1 + 1 + 1, 0, none⟩) 2 2] := by
   have h := VRow.new (((((w.alloc (.cells #[.int .i64 0, .int .i64 0] 3)).alloc (.cells #[.int .i64 4, .int .i64 4] 3)).alloc (.cells #[.int .i64 4, .int .i64 4] 3)).alloc (.cells #[.int .i64 3, .int .i64 0] 3))) 25 [.slice (some ⟨w.heap.size + 1, 0, none⟩) 2 2, .slice (some ⟨w.heap.size + 1 + 1, 0, none⟩) 2 2, .slice (some ⟨w.heap.size + 1 + 1 + 1, 0, none⟩) 2 2]
   rw [show (((((w.alloc (.cells #[.int .i64 0, .int .i64 0] 3)).alloc (.cells #[.int .i64 4, .int .i64 4] 3)).alloc (.cells #[.int .i64 4, .int .i64 4] 3)).alloc (.cells #[.int .i64 3, .int .i64 0] 3))).heap.size = w.heap.size + 1 + 1 + 1 + 1 by simp] at h
   exact (h.alloc _).alloc _
 refine ⟨⟨row_lit r0 rfl (by omega) (by decide), rows_lit v4 rfl rfl (by omega) fun i xs hi => ?_, row_lit r5 rfl (by omega) (by decide)⟩, ?_, hB⟩
 · match i, hi with
   | 0, hi => cases hi; exact ⟨_, _, rfl, row_lit r1 rfl (by decide) (by decide)⟩
   | 1, hi => cases hi; exact ⟨_, _, rfl, row_lit r2 rfl (by decide) (by decide)⟩
   | 2, hi => cases hi; exact ⟨_, _, rfl, row_lit r3 rfl (by decide) (by decide)⟩
 · have h := VRow.new (((((((w.alloc (.cells #[.int .i64 0, .int .i64 0] 3)).alloc (.cells #[.int .i64 4, .int .i64 4] 3)).alloc (.cells #[.int .i64 4, .int .i64 4] 3)).alloc (.cells #[.int .i64 3, .int .i64 0] 3)).alloc (.cells #[.slice (some ⟨w.heap.size + 1, 0, none⟩) 2 2, .slice (some ⟨w.heap.size + 1 + 1, 0, none⟩) 2 2, .slice (some ⟨w.heap.size + 1 + 1 + 1, 0, none⟩) 2 2] 25)).alloc (.cells #[.int .i64 0, .int .i64 1, .int .i64 2] 3))) 57 [.slice (some ⟨w.heap.size, 0, none⟩) 2 2, .slice (some ⟨w.heap.size + 1 + 1 + 1 + 1, 0, none⟩) 3 3, .slice (some ⟨w.heap.size + 1 + 1 + 1 + 1 + 1, 0, none⟩) 3 3]
   rw [show (((((((w.alloc (.cells #[.int .i64 0, .int .i64 0] 3)).alloc (.cells #[.int .i64 4, .int .i64 4] 3)).alloc (.cells #[.int .i64 4, .int .i64 4] 3)).alloc (.cells #[.int .i64 3, .int .i64 0] 3)).alloc (.cells #[.slice (some ⟨w.heap.size + 1, 0, none⟩) 2 2, .slice (some ⟨w.heap.size + 1 + 1, 0, none⟩) 2 2, .slice (some ⟨w.heap.size + 1 + 1 + 1, 0, none⟩) 2 2] 25)).alloc (.cells #[.int .i64 0, .int .i64 1, .int .i64 2] 3))).heap.size = w.heap.size + 1 + 1 + 1 + 1 + 1 + 1 by simp] at h
   exact h
end Go.Proofs.YtkddkkcfpnndlaaGreatDoor

namespace Go.Proofs.YtkddkkcfpnndlaaGreatDoor
open Go.RowKit Sale

theorem outM_m1 : outM m1 = ⟨[0, -1], [5]⟩ := by
 have h1 : leastM m1 = [5] := by rw [leastM_at 1 (by omega) (by decide +kernel)]; decide +kernel
 have h2 : hasM m1 = [0, -1] := by decide +kernel
 unfold outM; rw [h1, h2]
theorem outM_m2 : outM m2 = ⟨[0, 1, -1], [3, 3]⟩ := by
 have h1 : leastM m2 = [3, 3] := by rw [leastM_at 2 (by omega) (by decide +kernel)]; decide +kernel
 have h2 : hasM m2 = [0, 1, -1] := by decide +kernel
 unfold outM; rw [h1, h2]
theorem out_lit15 (W : World) (N : Nat) (hN : W.heap.size = N) (hs ps : List Int) (hn pn : Nat) (h1 : hs.length = hn) (h2 : ps.length = pn) (hb1 : hn ≤ 100) (hb2 : pn ≤ 100) (hx1 : ∀ x, x ∈ hs → -1000 ≤ x ∧ x ≤ 1000) (hx2 : ∀ x, x ∈ ps → -1000 ≤ x ∧ x ≤ 1000) :
   BoxO (N + 1 + 1) (some ⟨N, 0, none⟩) (some ⟨N + 1, 0, none⟩) hn hn pn pn ⟨hs, ps⟩ (((W.alloc (.cells (iarr hs) 3)).alloc (.cells (iarr ps) 3)).alloc (.cells #[.slice (some ⟨N, 0, none⟩) hn hn, .slice (some ⟨N + 1, 0, none⟩) pn pn] 70)) ∧
     Below W.heap.size W (((W.alloc (.cells (iarr hs) 3)).alloc (.cells (iarr ps) 3)).alloc (.cells #[.slice (some ⟨N, 0, none⟩) hn hn, .slice (some ⟨N + 1, 0, none⟩) pn pn] 70)) := by
 subst hN
 have ho : OutAt ((W.alloc (.cells (iarr hs) 3)).alloc (.cells (iarr ps) 3)) (some ⟨W.heap.size, 0, none⟩) (some ⟨W.heap.size + 1, 0, none⟩) hn hn pn pn ⟨hs, ps⟩ := ⟨row_lit ((Row.new W _ hs).alloc _) h1 hb1 hx1, row_lit (Row.new' _ _ ps (by simp)) h2 hb2 hx2⟩
 have hb := BoxO.new ho
 rw [show ((W.alloc (.cells (iarr hs) 3)).alloc (.cells (iarr ps) 3)).heap.size = W.heap.size + 1 + 1 by simp] at hb
 exact ⟨hb, (((Below.refl _ W).alloc (Nat.le_refl _) _).alloc (by simp) _).alloc (by simp; omega) _⟩

set_option maxRecDepth 100000 in
set_option maxHeartbeats 4000000 in
theorem lives15_any (w : World) : Calls Tryz.prog 47 #[] w fun e w' => e = .returned (.bool true) ∧ Below w.heap.size w w' := by
 have H0 := Lib.hid (m1_at w)
 have hs1 : (m1w w).heap.size = w.heap.size + 1 + 1 + 1 + 1 + 1 + 1 := by simp [m1w]
 have G1 := Lib.hid (m2_at (m1w w) _ hs1)
 have H1 := Lib.hid (H0.out.step (G1.out.below)); clear H0
 have HS1 := Lib.hid hs1; clear hs1
 have c0 := H1.out.row.cell (k := 0) rfl
 have c1 := H1.out.row.cell (k := 1) rfl
 have c2 := H1.out.row.cell (k := 2) rfl
 go_enter Tryz.func47, Tryz.ntmps47
 go_wp2_with fail
 refine (Oof_yes _ _ _ 1 1 2 2 2 2 m1 _ H1.out.mkt (by decide +kernel)).mono ?_
 rw [outM_m1]
 rintro e w3 ⟨ha, pa, hcp, rfl, ho, hb⟩
 have hal : Below w3.heap.size w3 (w3.alloc (.cells #[.slice ha 2 hcp, .slice pa 1 1] 70)) := (Below.refl _ _).alloc (Nat.le_refl _) _
 have H2 := Lib.hid ((H1.out.step hb).step hal)
 have G2 := Lib.hid ((G1.out.step hb).step hal)
 have A2 := Lib.hid (BoxO.new ho)
 clear hb ho hal H1 G1 c0 c1 c2
 have c0 := G2.out.row.cell (k := 0) rfl
 have c1 := G2.out.row.cell (k := 1) rfl
 have c2 := G2.out.row.cell (k := 2) rfl
 go_wp2_with fail
 refine (Oof_yes _ _ _ 2 2 3 3 3 3 m2 _ G2.out.mkt (by decide +kernel)).mono ?_
 rw [outM_m2]
 rintro e w4 ⟨hb', pb, hcq, rfl, ho, hb⟩
 have hal : Below w4.heap.size w4 (w4.alloc (.cells #[.slice hb' 3 hcq, .slice pb 2 2] 70)) := (Below.refl _ _).alloc (Nat.le_refl _) _
 have H3 := Lib.hid ((H2.out.step hb).step hal)
 have G3 := Lib.hid ((G2.out.step hb).step hal)
 have A3 := Lib.hid ((A2.out.step hb).step hal)
 have B3 := Lib.hid (BoxO.new ho)
 clear hb ho hal H2 G2 A2 c0 c1 c2
 go_upto_region 5 with fail
 obtain ⟨W0, hW0⟩ : ∃ W0, W0 = w4.alloc (.cells #[.slice hb' 3 hcq, .slice pb 2 2] 70) := ⟨_, rfl⟩
 rw [← hW0] at H3 G3 A3 B3 ⊢
 have hz0 : W0.heap.size = w4.heap.size + 1 := by rw [hW0]; simp
 clear hW0
 have hX : BoxO (w4.heap.size + 1 + 1 + 1) (some ⟨w4.heap.size + 1, 0, none⟩) (some ⟨w4.heap.size + 1 + 1, 0, none⟩) 2 2 1 1 ⟨[0, -1], [5]⟩ (((W0.alloc (.cells #[.int .i64 0, .int .i64 (-1)] 3)).alloc (.cells #[.int .i64 5] 3)).alloc (.cells #[.slice (some ⟨w4.heap.size + 1, 0, none⟩) 2 2, .slice (some ⟨w4.heap.size + 1 + 1, 0, none⟩) 1 1] 70)) ∧ Below W0.heap.size W0 (((W0.alloc (.cells #[.int .i64 0, .int .i64 (-1)] 3)).alloc (.cells #[.int .i64 5] 3)).alloc (.cells #[.slice (some ⟨w4.heap.size + 1, 0, none⟩) 2 2, .slice (some ⟨w4.heap.size + 1 + 1, 0, none⟩) 1 1] 70)) := out_lit15 W0 (w4.heap.size + 1) hz0 [0, -1] [5] 2 1 rfl rfl (by omega) (by omega) (by decide) (by decide)
 obtain ⟨W1, hW1⟩ : ∃ W, W = ((W0.alloc (.cells #[.int .i64 0, .int .i64 (-1)] 3)).alloc (.cells #[.int .i64 5] 3)).alloc (.cells #[.slice (some ⟨w4.heap.size + 1, 0, none⟩) 2 2, .slice (some ⟨w4.heap.size + 1 + 1, 0, none⟩) 1 1] 70) := ⟨_, rfl⟩
 have hz1 : W1.heap.size = w4.heap.size + 1 + 1 + 1 + 1 := by rw [hW1]; simp [hz0]
 rw [← hW1] at hX
 have hY : BoxO (w4.heap.size + 1 + 1 + 1 + 1 + 1 + 1) (some ⟨w4.heap.size + 1 + 1 + 1 + 1, 0, none⟩) (some ⟨w4.heap.size + 1 + 1 + 1 + 1 + 1, 0, none⟩) 3 3 2 2 ⟨[0, 1, -1], [3, 3]⟩ (((W1.alloc (.cells #[.int .i64 0, .int .i64 1, .int .i64 (-1)] 3)).alloc (.cells #[.int .i64 3, .int .i64 3] 3)).alloc (.cells #[.slice (some ⟨w4.heap.size + 1 + 1 + 1 + 1, 0, none⟩) 3 3, .slice (some ⟨w4.heap.size + 1 + 1 + 1 + 1 + 1, 0, none⟩) 2 2] 70)) ∧ Below W1.heap.size W1 (((W1.alloc (.cells #[.int .i64 0, .int .i64 1, .int .i64 (-1)] 3)).alloc (.cells #[.int .i64 3, .int .i64 3] 3)).alloc (.cells #[.slice (some ⟨w4.heap.size + 1 + 1 + 1 + 1, 0, none⟩) 3 3, .slice (some ⟨w4.heap.size + 1 + 1 + 1 + 1 + 1, 0, none⟩) 2 2] 70)) := out_lit15 W1 (w4.heap.size + 1 + 1 + 1 + 1) hz1 [0, 1, -1] [3, 3] 3 2 rfl rfl (by omega) (by omega) (by decide) (by decide)
 obtain ⟨W2, hW2⟩ : ∃ W, W = ((W1.alloc (.cells #[.int .i64 0, .int .i64 1, .int .i64 (-1)] 3)).alloc (.cells #[.int .i64 3, .int .i64 3] 3)).alloc (.cells #[.slice (some ⟨w4.heap.size + 1 + 1 + 1 + 1, 0, none⟩) 3 3, .slice (some ⟨w4.heap.size + 1 + 1 + 1 + 1 + 1, 0, none⟩) 2 2] 70) := ⟨_, rfl⟩
 have hz2 : W2.heap.size = w4.heap.size + 1 + 1 + 1 + 1 + 1 + 1 + 1 := by rw [hW2]; simp [hz1]
 rw [← hW2] at hY
 have hZ : BoxO (w4.heap.size + 1 + 1 + 1 + 1 + 1 + 1 + 1 + 1 + 1) (some ⟨w4.heap.size + 1 + 1 + 1 + 1 + 1 + 1 + 1, 0, none⟩) (some ⟨w4.heap.size + 1 + 1 + 1 + 1 + 1 + 1 + 1 + 1, 0, none⟩) 2 2 1 1 ⟨[0, -1], [4]⟩ (((W2.alloc (.cells #[.int .i64 0, .int .i64 (-1)] 3)).alloc (.cells #[.int .i64 4] 3)).alloc (.cells #[.slice (some ⟨w4.heap.size + 1 + 1 + 1 + 1 + 1 + 1 + 1, 0, none⟩) 2 2, .slice (some ⟨w4.heap.size + 1 + 1 + 1 + 1 + 1 + 1 + 1 + 1, 0, none⟩) 1 1] 70)) ∧ Below W2.heap.size W2 (((W2.alloc (.cells #[.int .i64 0, .int .i64 (-1)] 3)).alloc (.cells #[.int .i64 4] 3)).alloc (.cells #[.slice (some ⟨w4.heap.size + 1 + 1 + 1 + 1 + 1 + 1 + 1, 0, none⟩) 2 2, .slice (some ⟨w4.heap.size + 1 + 1 + 1 + 1 + 1 + 1 + 1 + 1, 0, none⟩) 1 1] 70)) := out_lit15 W2 (w4.heap.size + 1 + 1 + 1 + 1 + 1 + 1 + 1) hz2 [0, -1] [4] 2 1 rfl rfl (by omega) (by omega) (by decide) (by decide)
 obtain ⟨W3, hW3⟩ : ∃ W, W = ((W2.alloc (.cells #[.int .i64 0, .int .i64 (-1)] 3)).alloc (.cells #[.int .i64 4] 3)).alloc (.cells #[.slice (some ⟨w4.heap.size + 1 + 1 + 1 + 1 + 1 + 1 + 1, 0, none⟩) 2 2, .slice (some ⟨w4.heap.size + 1 + 1 + 1 + 1 + 1 + 1 + 1 + 1, 0, none⟩) 1 1] 70) := ⟨_, rfl⟩
 have hz3 : W3.heap.size = w4.heap.size + 1 + 1 + 1 + 1 + 1 + 1 + 1 + 1 + 1 + 1 := by rw [hW3]; simp [hz2]
 rw [← hW3] at hZ
 have hV : BoxO (w4.heap.size + 1 + 1 + 1 + 1 + 1 + 1 + 1 + 1 + 1 + 1 + 1 + 1) (some ⟨w4.heap.size + 1 + 1 + 1 + 1 + 1 + 1 + 1 + 1 + 1 + 1, 0, none⟩) (some ⟨w4.heap.size + 1 + 1 + 1 + 1 + 1 + 1 + 1 + 1 + 1 + 1 + 1, 0, none⟩) 2 2 1 1 ⟨[0, -1], [9]⟩ (((W3.alloc (.cells #[.int .i64 0, .int .i64 (-1)] 3)).alloc (.cells #[.int .i64 9] 3)).alloc (.cells #[.slice (some ⟨w4.heap.size + 1 + 1 + 1 + 1 + 1 + 1 + 1 + 1 + 1 + 1, 0, none⟩) 2 2, .slice (some ⟨w4.heap.size + 1 + 1 + 1 + 1 + 1 + 1 + 1 + 1 + 1 + 1 + 1, 0, none⟩) 1 1] 70)) ∧ Below W3.heap.size W3 (((W3.alloc (.cells #[.int .i64 0, .int .i64 (-1)] 3)).alloc (.cells #[.int .i64 9] 3)).alloc (.cells #[.slice (some ⟨w4.heap.size + 1 + 1 + 1 + 1 + 1 + 1 + 1 + 1 + 1 + 1, 0, none⟩) 2 2, .slice (some ⟨w4.heap.size + 1 + 1 + 1 + 1 + 1 + 1 + 1 + 1 + 1 + 1 + 1, 0, none⟩) 1 1] 70)) := out_lit15 W3 (w4.heap.size + 1 + 1 + 1 + 1 + 1 + 1 + 1 + 1 + 1 + 1) hz3 [0, -1] [9] 2 1 rfl rfl (by omega) (by omega) (by decide) (by decide)
 obtain ⟨W4, hW4⟩ : ∃ W, W = ((W3.alloc (.cells #[.int .i64 0, .int .i64 (-1)] 3)).alloc (.cells #[.int .i64 9] 3)).alloc (.cells #[.slice (some ⟨w4.heap.size + 1 + 1 + 1 + 1 + 1 + 1 + 1 + 1 + 1 + 1, 0, none⟩) 2 2, .slice (some ⟨w4.heap.size + 1 + 1 + 1 + 1 + 1 + 1 + 1 + 1 + 1 + 1 + 1, 0, none⟩) 1 1] 70) := ⟨_, rfl⟩
 have hz4 : W4.heap.size = w4.heap.size + 1 + 1 + 1 + 1 + 1 + 1 + 1 + 1 + 1 + 1 + 1 + 1 + 1 := by rw [hW4]; simp [hz3]
 rw [← hW4] at hV
 have hbX := hX.2
 have hbY := hY.2
 have hbZ := hZ.2
 have hbV := hV.2
 have bY : Below W1.heap.size W1 W4 := (hbY.trans (hbZ.mono hbY.size)).trans (hbV.mono (Nat.le_trans hbY.size hbZ.size))
 have bX : Below W0.heap.size W0 W4 := hbX.trans (bY.mono hbX.size)
 have bZ : Below W2.heap.size W2 W4 := hbZ.trans (hbV.mono hbZ.size)
 have H4 := Lib.hid (H3.out.step bX)
 have G4 := Lib.hid (G3.out.step bX)
 have A4 := Lib.hid (A3.out.step bX)
 have B4 := Lib.hid (B3.out.step bX)
 have X4 := Lib.hid (hX.1.step bY)
 have Y4 := Lib.hid (hY.1.step bZ)
 have Z4 := Lib.hid (hZ.1.step hbV)
 have V4 := Lib.hid hV.1
 have K1 := Lib.hid hW1
 have K2 := Lib.hid hW2
 have K3 := Lib.hid hW3
 have K4 := Lib.hid hW4
 clear hW1 hW2 hW3 hW4 hX hY hZ hV hbX hbY hbZ hbV bX bY bZ hz1 hz2 hz3 hz4
 go_upto_region 9 with fail
 rw [← K1.out, ← K2.out, ← K3.out, ← K4.out]
 clear H3 G3 A3 B3 K1 K2 K3 K4 hz0
 have rA0 := A4.out.row.cell (k := 0) rfl
 have rA1 := A4.out.row.cell (k := 1) rfl
 have rX0 := X4.out.row.cell (k := 0) rfl
 have rX1 := X4.out.row.cell (k := 1) rfl
 have HCC := Lib.hid (sameO_any _ _ _ _ _ _ _ _ _ _ _ _ ⟨[0, -1], [5]⟩ ⟨[0, -1], [5]⟩ W4 A4.out.out X4.out.out)
 rw [show sameO ⟨[0, -1], [5]⟩ ⟨[0, -1], [5]⟩ = true by decide] at HCC
 go_wp2_with fail
 refine HCC.out.mono ?_
 rintro e W5 ⟨rfl, hb⟩
 have H5 := Lib.hid (H4.out.step hb)
 have G5 := Lib.hid (G4.out.step hb)
 have B5 := Lib.hid (B4.out.step hb)
 have X5 := Lib.hid (X4.out.step hb)
 have Y5 := Lib.hid (Y4.out.step hb)
 have Z5 := Lib.hid (Z4.out.step hb)
 have V5 := Lib.hid (V4.out.step hb)
 clear hb HCC rA0 rA1 rX0 rX1 H4 G4 A4 B4 X4 Y4 Z4 V4
 have rB0 := B5.out.row.cell (k := 0) rfl
 have rB1 := B5.out.row.cell (k := 1) rfl
 have rY0 := Y5.out.row.cell (k := 0) rfl
 have rY1 := Y5.out.row.cell (k := 1) rfl
 have HCC := Lib.hid (sameO_any _ _ _ _ _ _ _ _ _ _ _ _ ⟨[0, 1, -1], [3, 3]⟩ ⟨[0, 1, -1], [3, 3]⟩ W5 B5.out.out Y5.out.out)
 rw [show sameO ⟨[0, 1, -1], [3, 3]⟩ ⟨[0, 1, -1], [3, 3]⟩ = true by decide] at HCC
 go_wp2_with fail
 refine HCC.out.mono ?_
 rintro e W6 ⟨rfl, hb⟩
 have H6 := Lib.hid (H5.out.step hb)
 have G6 := Lib.hid (G5.out.step hb)
 have X6 := Lib.hid (X5.out.step hb)
 have Y6 := Lib.hid (Y5.out.step hb)
 have Z6 := Lib.hid (Z5.out.step hb)
 have V6 := Lib.hid (V5.out.step hb)
 clear hb HCC rB0 rB1 rY0 rY1 H5 G5 B5 X5 Y5 Z5 V5
 have rH0 := H6.out.row.cell (k := 0) rfl
 have rH1 := H6.out.row.cell (k := 1) rfl
 have rH2 := H6.out.row.cell (k := 2) rfl
 have rX0 := X6.out.row.cell (k := 0) rfl
 have rX1 := X6.out.row.cell (k := 1) rfl
 have HCC := Lib.hid (Even_any _ _ _ _ _ _ _ _ _ _ _ _ _ _ _ m1 ⟨[0, -1], [5]⟩ W6 H6.out.mkt X6.out.out)
 rw [show evenB m1 ⟨[0, -1], [5]⟩ = true by decide +kernel] at HCC
 go_wp2_with fail
 refine HCC.out.mono ?_
 rintro e W7 ⟨rfl, hb⟩
 have H7 := Lib.hid (H6.out.step hb)
 have G7 := Lib.hid (G6.out.step hb)
 have X7 := Lib.hid (X6.out.step hb)
 have Y7 := Lib.hid (Y6.out.step hb)
 have Z7 := Lib.hid (Z6.out.step hb)
 have V7 := Lib.hid (V6.out.step hb)
 clear hb HCC rH0 rH1 rH2 rX0 rX1 H6 G6 X6 Y6 Z6 V6
 have rG0 := G7.out.row.cell (k := 0) rfl
 have rG1 := G7.out.row.cell (k := 1) rfl
 have rG2 := G7.out.row.cell (k := 2) rfl
 have rY0 := Y7.out.row.cell (k := 0) rfl
 have rY1 := Y7.out.row.cell (k := 1) rfl
 have HCC := Lib.hid (Even_any _ _ _ _ _ _ _ _ _ _ _ _ _ _ _ m2 ⟨[0, 1, -1], [3, 3]⟩ W7 G7.out.mkt Y7.out.out)
 rw [show evenB m2 ⟨[0, 1, -1], [3, 3]⟩ = true by decide +kernel] at HCC
 go_wp2_with fail
 refine HCC.out.mono ?_
 rintro e W8 ⟨rfl, hb⟩
 have H8 := Lib.hid (H7.out.step hb)
 have X8 := Lib.hid (X7.out.step hb)
 have Z8 := Lib.hid (Z7.out.step hb)
 have V8 := Lib.hid (V7.out.step hb)
 clear hb HCC rG0 rG1 rG2 rY0 rY1 H7 G7 X7 Y7 Z7 V7
 have rH0 := H8.out.row.cell (k := 0) rfl
 have rH1 := H8.out.row.cell (k := 1) rfl
 have rH2 := H8.out.row.cell (k := 2) rfl
 have rZ0 := Z8.out.row.cell (k := 0) rfl
 have rZ1 := Z8.out.row.cell (k := 1) rfl
 have HCC := Lib.hid (Even_any _ _ _ _ _ _ _ _ _ _ _ _ _ _ _ m1 ⟨[0, -1], [4]⟩ W8 H8.out.mkt Z8.out.out)
 rw [show evenB m1 ⟨[0, -1], [4]⟩ = false by decide +kernel] at HCC
 go_wp2_with fail
 refine HCC.out.mono ?_
 rintro e W9 ⟨rfl, hb⟩
 have H9 := Lib.hid (H8.out.step hb)
 have X9 := Lib.hid (X8.out.step hb)
 have V9 := Lib.hid (V8.out.step hb)
 clear hb HCC rH0 rH1 rH2 rZ0 rZ1 H8 X8 Z8 V8
 have rH0 := H9.out.row.cell (k := 0) rfl
 have rH1 := H9.out.row.cell (k := 1) rfl
 have rH2 := H9.out.row.cell (k := 2) rfl
 have rV0 := V9.out.row.cell (k := 0) rfl
 have rV1 := V9.out.row.cell (k := 1) rfl
 have HCC := Lib.hid (Even_any _ _ _ _ _ _ _ _ _ _ _ _ _ _ _ m1 ⟨[0, -1], [9]⟩ W9 H9.out.mkt V9.out.out)
 rw [show evenB m1 ⟨[0, -1], [9]⟩ = true by decide +kernel] at HCC
 go_wp2_with fail
 refine HCC.out.mono ?_
 rintro e W10 ⟨rfl, hb⟩
 have H10 := Lib.hid (H9.out.step hb)
 have X10 := Lib.hid (X9.out.step hb)
 clear hb HCC rH0 rH1 rH2 rV0 rV1 H9 X9 V9
 have rX0 := X10.out.row.cell (k := 0) rfl
 have rX1 := X10.out.row.cell (k := 1) rfl
 have HCC := Lib.hid (pays_any _ _ _ _ _ _ ⟨[0, -1], [5]⟩ 0 W10 X10.out.out)
 rw [show paysV ⟨[0, -1], [5]⟩ 0 = 5 by decide] at HCC
 go_wp2_with fail
 refine HCC.out.mono ?_
 rintro e W11 ⟨rfl, hb⟩
 have H11 := Lib.hid (H10.out.step hb)
 have X11 := Lib.hid (X10.out.step hb)
 clear hb HCC rX0 rX1 H10 X10
 have rX0 := X11.out.row.cell (k := 0) rfl
 have rX1 := X11.out.row.cell (k := 1) rfl
 have HCC := Lib.hid (pays_any _ _ _ _ _ _ ⟨[0, -1], [5]⟩ 1 W11 X11.out.out)
 rw [show paysV ⟨[0, -1], [5]⟩ 1 = 0 by decide] at HCC
 go_wp2_with fail
 refine HCC.out.mono ?_
 rintro e W12 ⟨rfl, hb⟩
 have H12 := Lib.hid (H11.out.step hb)
 clear hb HCC rX0 rX1 H11 X11
 go_wp2_with fail
 go_ret
 exact ⟨rfl, H12.out.below⟩
end Go.Proofs.YtkddkkcfpnndlaaGreatDoor
