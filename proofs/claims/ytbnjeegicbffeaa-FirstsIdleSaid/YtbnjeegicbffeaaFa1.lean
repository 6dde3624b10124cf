/- Walks: the law FirstsBest. -/
import Derived.Test.YtbnjeegicbffeaaFp1
import Derived.Test.YtbnjeegicbffeaaFl3
import Derived.Test.YtbnjeegicbffeaaFq
namespace Go.Proofs.Ytbnjeegicbffeaa
open Go.RowKit Sale

/-- the world behind the copy of the gains -/
def gw (w : World) (ga : Option Addr) (gn gc : Nat) (items : Int) : World := w.alloc (.cells #[.slice ga gn gc, .int .i64 items] 37)
theorem gw_kept {w w1 : World} {ga : Option Addr} {gn gc : Nat} {items : Int} (hb : Below (w.heap.size + 1) (gw w ga gn gc items) w1) :
    w1.cell? ⟨w.heap.size, 0, none⟩ = some (.slice ga gn gc) ∧ w1.cell? ⟨w.heap.size, 1, none⟩ = some (.int .i64 items) ∧ w.heap.size < w1.heap.size ∧ Below w.heap.size w w1 := by
  have hs : (gw w ga gn gc items).heap.size = w.heap.size + 1 := by simp [gw]
  have h0 := hb.size
  refine ⟨?_, ?_, by omega, ((Below.refl w.heap.size w).alloc (Nat.le_refl _) _).trans (hb.mono (by omega))⟩
  · rw [hb.cell (p := ⟨w.heap.size, 0, none⟩) (by simp)]; simp [gw, go_sem]
  · rw [hb.cell (p := ⟨w.heap.size, 1, none⟩) (by simp)]; simp [gw, go_sem]
theorem gw_start (w : World) (ga : Option Addr) (gn gc : Nat) (items : Int) : Below (w.heap.size + 1) (gw w ga gn gc items) (gw w ga gn gc items) := Below.refl _ _
theorem gw_below {w w1 w2 : World} {ga : Option Addr} {gn gc : Nat} {items : Int} (h : Below (w.heap.size + 1) (gw w ga gn gc items) w1) (h2 : Below w1.heap.size w1 w2) : Below (w.heap.size + 1) (gw w ga gn gc items) w2 :=
  h.trans (h2.mono (by have := h.size; simp [gw] at this; omega))

set_option maxRecDepth 100000 in
set_option maxHeartbeats 1000000 in
theorem firstsBest_any (ga oa : Option Addr) (gn gc o_n oc : Nat) (gains : List (List Int)) (items : Int) (order : List Int) (w : World) (hg : Rows w ga gn gc gains) (ho : Ints w oa o_n oc order) (hsz : o_n * 8 ≤ reachBytes) :
    Calls Try.prog 4 #[.agg #[.slice ga gn gc, .int .i64 items], .slice oa o_n oc] w fun e w' => e = .returned (.bool true) ∧ Below w.heap.size w w' := by
  have HG := Lib.hid hg; clear hg
  have HO := Lib.hid ho; clear ho
  have HB0 := Lib.hid (gw_start w ga gn gc items)
  have HF := Lib.hid (First_all ga oa gn gc o_n oc gains items order (gw w ga gn gc items) (HG.out.below (gw_kept HB0.out).2.2.2 (Nat.le_refl _)) (HO.out.below (gw_kept HB0.out).2.2.2 (Nat.le_refl _)) hsz)
  have HL := Lib.hid HG.out.len
  go_enter Try.func4, Try.ntmps4
  rcases HF.out with ⟨hok, hc⟩ | ⟨n, on, rfl, rfl, h1, h2, hc⟩
  · have HC := Lib.hid hc; clear hc
    clear HF hok
    go_wp2_with fail
    refine HC.out.mono ?_
    rintro e w1 ⟨a1, n1, c1, rfl, hi1, hb1⟩
    have HB1 := Lib.hid (gw_below HB0.out hb1); clear hb1
    obtain rfl : n1 = 0 := hi1.len.symm
    clear HC hi1
    obtain ⟨hc0, hc1, hs1, _⟩ := gw_kept HB1.out
    go_wp2_with fail
    refine (Best_any ga gn gc gains items w1 (HG.out.below (gw_kept HB1.out).2.2.2 (Nat.le_refl _))).mono ?_
    rintro e w2 ⟨rfl, hb⟩
    have HB2 := Lib.hid (gw_below HB1.out hb); clear hb
    clear hc0 hc1 hs1
    obtain ⟨x, hx⟩ : ∃ x : Int, x = (if wcheck gains items = true then 0 else 1) := ⟨_, rfl⟩
    obtain ⟨y, hy⟩ : ∃ y : Int, y = (if wcheck gains items = true then bestVal gains items.toNat else 0) := ⟨_, rfl⟩
    rw [← hx, ← hy]
    clear hx hy
    go_wp2_with fail
    refine (alive_any w2).mono ?_
    rintro e w3 ⟨rfl, hb⟩
    have HB3 := Lib.hid (gw_below HB2.out hb); clear hb
    go_wp2_with fail
    go_ret
    exact ⟨rfl, (gw_kept HB3.out).2.2.2⟩
  · have HC := Lib.hid hc; clear hc
    have H1 := Lib.hid h1; clear h1
    have H2 := Lib.hid h2; clear h2
    obtain ⟨p1, p2, p3, p4, p5⟩ := wcheck_parts H1.out
    have P4 := Lib.hid p4; clear p4
    have P5 := Lib.hid p5; clear p5
    clear HF
    go_wp2_with fail
    refine HC.out.mono ?_
    rintro e w1 ⟨a1, n1, c1, rfl, hi1, hb1⟩
    have HB1 := Lib.hid (gw_below HB0.out hb1); clear hb1
    have HI1 := Lib.hid hi1; clear hi1
    clear HC
    have hn1 : n1 = gn := by rw [← HI1.out.len, firstOf_length, HL.out]
    subst hn1
    obtain ⟨hc0, hc1, hs1, _⟩ := gw_kept HB1.out
    go_wp2_with fail
    refine (Best_any ga n1 gc gains n w1 (HG.out.below (gw_kept HB1.out).2.2.2 (Nat.le_refl _))).mono ?_
    rw [H1.out, if_pos rfl, if_pos rfl]
    rintro e w2 ⟨rfl, hb⟩
    have HB2 := Lib.hid (gw_below HB1.out hb)
    have HI2 := Lib.hid (HI1.out.below hb (Nat.le_refl _)); clear hb
    clear hc0 hc1 hs1
    obtain ⟨hc0, hc1, hs1, _⟩ := gw_kept HB2.out
    go_wp2_with fail
    refine (gains_any ga a1 n1 gc n1 c1 gains n _ w2 (HG.out.below (gw_kept HB2.out).2.2.2 (Nat.le_refl _)) HI2.out rfl p3 P5.out).mono ?_
    rw [first_best P4.out (isOrd_parts H2.out)]
    rintro e w3 ⟨rfl, hb⟩
    have HB3 := Lib.hid (gw_below HB2.out hb); clear hb
    go_wp2_with fail
    refine (alive_any w3).mono ?_
    rintro e w4 ⟨rfl, hb⟩
    have HB4 := Lib.hid (gw_below HB3.out hb); clear hb
    have e1 : (bestVal gains n == bestVal gains n) = true := by simp
    go_wp2_with fail
    go_ret
    exact ⟨rfl, (gw_kept HB4.out).2.2.2⟩
end Go.Proofs.Ytbnjeegicbffeaa
