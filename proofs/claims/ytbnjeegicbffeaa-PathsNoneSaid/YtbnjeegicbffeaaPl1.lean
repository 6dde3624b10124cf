/- Walks: what the laws on paths ask besides: is a number in a list; some answers of More and Reach. -/
import Derived.Test.YtbnjeegicbffeaaPs6
import Derived.Test.YtbnjeegicbffeaaPl0
import Derived.Test.YtbnjeegicbffeaaSame
import Derived.Test.YtbnjeegicbffeaaLift
namespace Go.Proofs.Ytbnjeegicbffeaa
open Go.RowKit

/-! ### has -/
set_option maxHeartbeats 400000 in
theorem lhas_any (a : Option Addr) (n c : Nat) (xs : List Int) (x : Int) (w : World) (h : Ints w a n c xs) :
    Calls Try.prog 31 #[.slice a n c, .int .i64 x] w fun e w' => e = .returned (.bool (decide (x ∈ xs))) ∧ w = w' := by
  have hb := h.big
  go_enter Try.func31, Try.ntmps31
  go_wp2_with fail
  go_loopg [5] n (fun g' s5 wr => ∃ k : Nat, k + g' = n ∧ s5 = .int .i64 k ∧ wr = w ∧ x ∉ xs.take k)
  case atStart => exact ⟨0, by omega, rfl, rfl, by simp⟩
  case round =>
    obtain ⟨k, hk, rfl, rfl, hf⟩ := hrel
    by_cases hlt : k < n
    · obtain ⟨y, hx, _⟩ := h.get hlt
      obtain ⟨b, o, rfl⟩ := h.addr (by omega)
      have hc := h.cell b o rfl k y hx
      have H := Lib.hid h; clear h
      have HF := Lib.hid hf; clear hf
      have HX := Lib.hid hx; clear hx
      have HK := Lib.hid hk; clear hk
      cases hpx : (y == x) with
      | true =>
        go_wp2_with fail
        go_ret
        refine ⟨ret_bool ?_, rfl⟩
        symm
        rw [decide_eq_true_eq]
        have : y = x := by simpa using hpx
        exact this ▸ List.mem_of_getElem? HX.out
      | false =>
        go_wp2_with fail
        go_roundg (gk - 1)
        case measure => have := HK.out; omega
        case rel =>
          refine ⟨k + 1, by have := HK.out; omega, by go_num, rfl, ?_⟩
          have : y ≠ x := by simpa using hpx
          rw [List.take_add_one, HX.out]
          simp [HF.out, Ne.symm this]
    · obtain rfl : k = n := by omega
      rw [List.take_of_length_le (by have := h.len; omega)] at hf
      have HF := Lib.hid hf; clear hf
      have H := Lib.hid h; clear h
      go_wp2_with fail
      go_ret
      exact ⟨ret_bool (by simp [HF.out]), rfl⟩

/-! ### literals -/
theorem lit2 (w : World) (xs ys : List Int) (k1 k2 : Nat) (h1 : xs.length = k1) (h2 : ys.length = k2) (hk1 : k1 ≤ 8) (hk2 : k2 ≤ 8) (hb1 : ∀ x, x ∈ xs → -100 ≤ x ∧ x ≤ 100) (hb2 : ∀ x, x ∈ ys → -100 ≤ x ∧ x ≤ 100) :
    Rows (((w.alloc (.cells (iarr xs) 3)).alloc (.cells (iarr ys) 3)).alloc (.cells #[.slice (some ⟨w.heap.size, 0, none⟩) k1 k1, .slice (some ⟨w.heap.size + 1, 0, none⟩) k2 k2] 22)) (some ⟨w.heap.size + 1 + 1, 0, none⟩) 2 2 [xs, ys] ∧
      Below w.heap.size w (((w.alloc (.cells (iarr xs) 3)).alloc (.cells (iarr ys) 3)).alloc (.cells #[.slice (some ⟨w.heap.size, 0, none⟩) k1 k1, .slice (some ⟨w.heap.size + 1, 0, none⟩) k2 k2] 22)) := by
  have r1 := ((Row.new w 3 xs).alloc (.cells (iarr ys) 3)).alloc (.cells #[.slice (some ⟨w.heap.size, 0, none⟩) k1 k1, .slice (some ⟨w.heap.size + 1, 0, none⟩) k2 k2] 22)
  have r2 := (Row.new' (w.alloc (.cells (iarr xs) 3)) 3 ys (B := w.heap.size + 1) (by simp)).alloc (.cells #[.slice (some ⟨w.heap.size, 0, none⟩) k1 k1, .slice (some ⟨w.heap.size + 1, 0, none⟩) k2 k2] 22)
  have i1 := r1.ints (by omega) (fun x hx' => by have := hb1 x hx'; omega)
  have i2 := r2.ints (by omega) (fun x hx' => by have := hb2 x hx'; omega)
  rw [h1] at i1
  rw [h2] at i2
  refine ⟨⟨rfl, by omega, by omega, fun _ => ⟨_, _, rfl⟩, fun b o he j zs hz => ?_⟩, (((Below.refl _ w).alloc (Nat.le_refl _) _).alloc (by simp) _).alloc (by simp; omega) _⟩
  cases he
  match j, hz with
  | 0, hz => cases hz; exact ⟨_, _, _, by simp [go_sem], i1⟩
  | 1, hz => cases hz; exact ⟨_, _, _, by simp [go_sem], i2⟩

theorem lit1 (w : World) (xs : List Int) (k : Nat) (h : xs.length = k) (hk : k ≤ 8) (hb : ∀ x, x ∈ xs → -100 ≤ x ∧ x ≤ 100) : Ints (w.alloc (.cells (iarr xs) 3)) (some ⟨w.heap.size, 0, none⟩) k k xs ∧ Below w.heap.size w (w.alloc (.cells (iarr xs) 3)) := by
  have i := (Row.new w 3 xs).ints (by omega) (fun x hx => by have := hb x hx; omega)
  rw [h] at i
  exact ⟨i, (Below.refl _ w).alloc (Nat.le_refl _) _⟩

theorem sameLit7 (w w0 : World) (a : Option Addr) (n c : Nat) (xs ys : List Int) (m : Nat) (hi : Ints w0 a n c xs) (hb0 : Below w0.heap.size w0 w) (hy : ys.length = m) (hm : m ≤ 8) (hby : ∀ x, x ∈ ys → -100 ≤ x ∧ x ≤ 100) :
    Calls Try.prog 28 #[.slice a n c, .slice (some ⟨w.heap.size, 0, none⟩) m m] (w.alloc (.cells (iarr ys) 3)) fun e w' => e = .returned (.bool (decide (xs = ys))) ∧ Below w.heap.size w w' := by
  obtain ⟨i2, hB⟩ := lit1 w ys m hy hm hby
  refine (same_any a _ n c m m xs ys _ (hi.below (hb0.trans (hB.mono hb0.size)) (Nat.le_refl _)) i2).mono ?_
  rintro e w' ⟨rfl, hb⟩
  exact ⟨rfl, hB.trans (hb.mono hB.size)⟩

/-- More of a literal matching -/
theorem moreLit (w w0 : World) (ga : Option Addr) (G : List (List Nat)) (items : Int) (has : List Int) (f : Nat) (r : Option (List Int)) (hg : Rows w0 ga 2 2 (G.map nats)) (hb0 : Below w0.heap.size w0 w) (hl : has.length = 2) (hb : ∀ x, x ∈ has → -100 ≤ x ∧ x ≤ 100)
    (hok : bOk (G.map nats) items has f = true) (hr : moreOf G has f = r) :
    Calls Try.prog 32 #[.slice ga 2 2, .int .i64 items, .slice (some ⟨w.heap.size, 0, none⟩) 2 2, .int .i64 f] (w.alloc (.cells (iarr has) 3)) fun e w' => MoreRes 2 r (w.alloc (.cells (iarr has) 3)) e w' ∧ Below w.heap.size w w' := by
  obtain ⟨i2, hB⟩ := lit1 w has 2 hl (by omega) hb
  refine (More_res ga _ 2 2 2 2 f G items has _ (hg.below (hb0.trans (hB.mono hb0.size)) (Nat.le_refl _)) i2 hok).mono ?_
  intro e w' h
  rw [hr] at h
  refine ⟨h, ?_⟩
  cases r with
  | none => exact hB.trans (h.2.mono hB.size)
  | some l => obtain ⟨a, _, _, h3⟩ := h; exact hB.trans (h3.mono hB.size)
end Go.Proofs.Ytbnjeegicbffeaa
