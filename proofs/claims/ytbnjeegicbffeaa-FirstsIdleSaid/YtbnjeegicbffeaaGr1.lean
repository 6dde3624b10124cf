/- Walks: package graphs: rises, Check, Fits, Many; slices.Index, Contains at ints. -/
import Derived.Test.YtbnjeegicbffeaaMk2
namespace Go.Proofs.Ytbnjeegicbffeaa
open Go.RowKit

/-! ### slices.Index, Contains -/
set_option maxHeartbeats 400000 in
theorem index_any (a : Option Addr) (n c : Nat) (xs : List Int) (x : Int) (w : World) (h : Ints w a n c xs) :
    Calls Try.prog 77 #[.slice a n c, .int .i64 x] w fun e w' => e = .returned (.int .i64 (idxOf (xs.findIdx? fun y => x == y))) ∧ w = w' := by
  have hb := h.big
  go_enter Try.func77, Try.ntmps77
  go_wp2_with fail
  go_loopg [8] n (fun g' s8 wr => ∃ k : Nat, k + g' = n ∧ s8 = .int .i64 k ∧ wr = w ∧ (xs.take k).findIdx? (fun y => x == y) = none)
  case atStart => exact ⟨0, by omega, rfl, rfl, rfl⟩
  case round =>
    obtain ⟨k, hk, rfl, rfl, hf⟩ := hrel
    by_cases hlt : k < n
    · obtain ⟨y, hx, _⟩ := h.get hlt
      obtain ⟨b, o, rfl⟩ := h.addr (by omega)
      have hc := h.cell b o rfl k y hx
      have H := Lib.hid h; clear h
      have HF := Lib.hid hf; clear hf
      have HX := Lib.hid hx; clear hx
      have HK := Lib.hid hk; clear hk
      cases hpx : (x == y) with
      | true =>
        go_wp2_with fail
        go_ret
        refine ⟨ret_int ?_, rfl⟩
        rw [findIdx_at (p := fun y => x == y) HX.out HF.out hpx]; rfl
      | false =>
        go_wp2_with fail
        go_roundg (gk - 1)
        case measure => have := HK.out; omega
        case rel => exact ⟨k + 1, by have := HK.out; omega, by go_num, rfl, findIdx_on (p := fun y => x == y) HX.out HF.out hpx⟩
    · obtain rfl : k = n := by omega
      have HF := Lib.hid hf; clear hf
      have H := Lib.hid h; clear h
      go_wp2_with fail
      go_ret
      refine ⟨ret_int ?_, rfl⟩
      have hl := H.out.len
      have hf := HF.out
      rw [List.take_of_length_le (by omega)] at hf
      rw [hf]; rfl

theorem contains_any (a : Option Addr) (n c : Nat) (xs : List Int) (x : Int) (w : World) (h : Ints w a n c xs) :
    Calls Try.prog 56 #[.slice a n c, .int .i64 x] w fun e w' => e = .returned (.bool (xs.contains x)) ∧ w = w' := by
  have HH := Lib.hid h; clear h
  go_enter Try.func56, Try.ntmps56
  go_wp2_with fail
  refine (index_any a n c xs x w HH.out).mono ?_
  rintro e w1 ⟨rfl, rfl⟩
  go_wp2_with fail
  go_ret
  refine ⟨ret_bool ?_, rfl⟩
  rw [idxOf_ge, List.findIdx?_isSome, List.contains_eq_any_beq]

/-! ### rises -/
/-- does a list rise from above some number on, below another? -/
def risesFrom (many : Int) : Int → List Int → Bool
  | _, [] => true
  | last, n :: l => decide (last < n ∧ n < many) && risesFrom many n l

set_option maxHeartbeats 400000 in
theorem rises_any (a : Option Addr) (n c : Nat) (xs : List Int) (many : Int) (w : World) (h : Ints w a n c xs) :
    Calls Try.prog 57 #[.slice a n c, .int .i64 many] w fun e w' => e = .returned (.bool (risesFrom many (-1) xs)) ∧ w = w' := by
  have hb := h.big
  go_enter Try.func57, Try.ntmps57
  go_wp2_with fail
  go_loopg [5, 10] n (fun g' s5 s10 wr => ∃ k : Nat, k + g' = n ∧ s10 = .int .i64 k ∧ wr = w ∧ ∃ last : Int, s5 = .int .i64 last ∧ risesFrom many (-1) xs = risesFrom many last (xs.drop k))
  case atStart => exact ⟨0, by omega, rfl, rfl, -1, rfl, rfl⟩
  case round =>
    obtain ⟨k, hk, rfl, rfl, last, rfl, hr⟩ := hrel
    by_cases hlt : k < n
    · obtain ⟨x, hx, _⟩ := h.get hlt
      obtain ⟨b, o, rfl⟩ := h.addr (by omega)
      have hc := h.cell b o rfl k x hx
      have hd : xs.drop k = x :: xs.drop (k + 1) := by
        have h2 : xs[k]'(by have := h.len; omega) = x := by
          have := (List.getElem?_eq_some_iff.1 hx).2; exact this
        rw [← h2]; exact List.drop_eq_getElem_cons _
      rw [hd] at hr
      have HR := Lib.hid hr; clear hr
      have HD := Lib.hid hd; clear hd
      have H := Lib.hid h; clear h
      have HX := Lib.hid hx; clear hx
      have HK := Lib.hid hk; clear hk
      by_cases h1 : x ≤ last
      · go_wp2_with fail
        go_ret
        exact ⟨ret_bool (by rw [HR.out]; simp [risesFrom]; omega), rfl⟩
      · by_cases h2 : many ≤ x
        · go_wp2_with fail
          go_ret
          exact ⟨ret_bool (by rw [HR.out]; simp [risesFrom]; omega), rfl⟩
        · go_wp2_with fail
          go_roundg (gk - 1)
          case measure => have := HK.out; omega
          case rel => exact ⟨k + 1, by have := HK.out; omega, by go_num, rfl, x, rfl, by rw [HR.out]; simp [risesFrom]; omega⟩
    · obtain rfl : k = n := by omega
      have hd : xs.drop k = [] := List.drop_eq_nil_of_le (by have := h.len; omega)
      rw [hd] at hr
      have HR := Lib.hid hr; clear hr hd
      have H := Lib.hid h; clear h
      go_wp2_with fail
      go_ret
      exact ⟨ret_bool (by rw [HR.out]; rfl), rfl⟩

/-! ### Check -/
/-- may that be who may have which items, of so many? -/
def gcheck (g : List (List Int)) (items : Int) : Bool := decide (0 ≤ items) && decide (items ≤ 8) && decide (g.length ≤ 8) && !(g.any fun l => !risesFrom items (-1) l)

theorem notRises_any (a : Option Addr) (n c : Nat) (xs : List Int) (items : Int) (B : Nat) (w : World) (h : Ints w a n c xs) (hB : w.cell? ⟨B, 0, none⟩ = some (.int .i64 items)) :
    Calls Try.prog 76 #[.slice a n c, .pointer (some ⟨B, 0, none⟩)] w fun e w' => e = .returned (.bool (!risesFrom items (-1) xs)) ∧ Below w.heap.size w w' := by
  have H := Lib.hid h; clear h
  go_enter Try.func76, Try.ntmps76
  go_wp2_with fail
  refine (rises_any a n c xs items w H.out).mono ?_
  rintro e w1 ⟨rfl, rfl⟩
  go_wp2_with fail
  go_ret
  exact ⟨rfl, Below.refl _ _⟩

theorem entersRises : Enters 76 := fun args w => by
  simp [callFunc, Try.func76]
  kernel_rfl

set_option maxHeartbeats 400000 in
theorem gcheck_any (a : Option Addr) (n c : Nat) (g : List (List Int)) (items : Int) (w : World) (h : Rows w a n c g) :
    Calls Try.prog 55 #[.slice a n c, .int .i64 items] w fun e w' => e = .returned (.bool (gcheck g items)) ∧ Below w.heap.size w w' := by
  have hl := h.len
  have hbig := h.big
  have H := Lib.hid h; clear h
  have HL := Lib.hid hl; clear hl
  go_enter Try.func55, Try.ntmps55
  have hal : Below w.heap.size w (w.alloc (.cells #[.int .i64 items] 3)) := (Below.refl _ _).alloc (Nat.le_refl _) _
  have HAL := Lib.hid hal; clear hal
  by_cases h1 : 0 ≤ items
  · by_cases h2 : items ≤ 8
    · by_cases h3 : n ≤ 8
      · go_wp2_with fail
        refine (containsRows_any a n c g 76 (.pointer (some ⟨w.heap.size, 0, none⟩)) (fun l => !risesFrom items (-1) l) _ (H.out.below HAL.out (Nat.le_refl _)) entersRises ?_).mono ?_
        · intro w' a n c xs hb3 h3
          exact notRises_any a n c xs items w.heap.size w' h3 (by rw [hb3.cell (p := ⟨w.heap.size, 0, none⟩) (by simp)]; simp [go_sem])
        · rintro e w3 ⟨rfl, hb3⟩
          have HB3 := Lib.hid hb3; clear hb3
          go_wp2_with fail
          go_ret
          refine ⟨ret_bool ?_, HAL.out.trans (HB3.out.mono (by simp))⟩
          have e : g.length ≤ 8 := by rw [HL.out]; exact h3
          simp [gcheck, h1, h2, e]
      · have hd : decide (n ≤ 8) = false := by simp; omega
        go_wp2_with fail
        go_ret
        refine ⟨ret_bool ?_, HAL.out⟩
        have e : ¬ g.length ≤ 8 := by rw [HL.out]; exact h3
        simp [gcheck, e]
    · have hd : decide (items ≤ 8) = false := by simp; omega
      go_wp2_with fail
      go_ret
      refine ⟨ret_bool ?_, HAL.out⟩
      simp only [gcheck, hd, Bool.and_false, Bool.false_and]
  · have hd : decide (0 ≤ items) = false := by simp; omega
    go_wp2_with fail
    go_ret
    refine ⟨ret_bool ?_, HAL.out⟩
    simp only [gcheck, hd, Bool.false_and]

/-! ### Many -/
def manyOf (has : List Int) : Int := ((has.filter fun k => k != -1).length : Int)
theorem manyOf_snoc {xs : List Int} {k : Nat} {x : Int} (h : xs[k]? = some x) : manyOf (xs.take (k + 1)) = manyOf (xs.take k) + if x = -1 then 0 else 1 := by
  unfold manyOf
  rw [List.take_add_one, h, List.filter_append]
  by_cases e : x = -1 <;> simp [e]
theorem manyOf_le (xs : List Int) : 0 ≤ manyOf xs ∧ manyOf xs ≤ xs.length := by
  unfold manyOf
  have := List.length_filter_le (fun k : Int => k != -1) xs
  omega

set_option maxHeartbeats 400000 in
theorem many_any (a : Option Addr) (n c : Nat) (xs : List Int) (w : World) (h : Ints w a n c xs) :
    Calls Try.prog 34 #[.slice a n c] w fun e w' => e = .returned (.int .i64 (manyOf xs)) ∧ w = w' := by
  have hb := h.big
  go_enter Try.func34, Try.ntmps34
  go_wp2_with fail
  go_loopg [2, 7] n (fun g' s2 s7 wr => ∃ k : Nat, k + g' = n ∧ s7 = .int .i64 k ∧ wr = w ∧ s2 = .int .i64 (manyOf (xs.take k)))
  case atStart => exact ⟨0, by omega, rfl, rfl, rfl⟩
  case round =>
    obtain ⟨k, hk, rfl, rfl, rfl⟩ := hrel
    by_cases hlt : k < n
    · obtain ⟨x, hx, _⟩ := h.get hlt
      obtain ⟨b, o, rfl⟩ := h.addr (by omega)
      have hc := h.cell b o rfl k x hx
      have hs := manyOf_snoc hx
      have hm := manyOf_le (xs.take k)
      have hml : (xs.take k).length ≤ k := by simp; omega
      obtain ⟨m, hme⟩ : ∃ m, m = manyOf (xs.take k) := ⟨_, rfl⟩
      rw [← hme] at hs hm ⊢
      have HS := Lib.hid hs; clear hs
      have HM := Lib.hid hme; clear hme
      obtain ⟨hm1, hm2⟩ := hm
      have hm3 : m ≤ 4611686018427387904 := by omega
      clear hm2 hml
      have H := Lib.hid h; clear h
      have HX := Lib.hid hx; clear hx
      have HK := Lib.hid hk; clear hk
      by_cases e : x = -1
      · have e1 : (x != -1) = false := by simp [e]
        have E := Lib.hid e; clear e
        go_wp2_with fail
        go_roundg (gk - 1)
        case measure => have := HK.out; omega
        case rel => exact ⟨k + 1, by have := HK.out; omega, by go_num, rfl, by rw [HS.out, if_pos E.out]; simp⟩
      · have e1 : (x != -1) = true := by simp [e]
        have E := Lib.hid e; clear e
        go_wp2_with fail
        go_roundg (gk - 1)
        case measure => have := HK.out; omega
        case rel => exact ⟨k + 1, by have := HK.out; omega, by go_num, rfl, by rw [HS.out, if_neg E.out]⟩
    · obtain rfl : k = n := by omega
      rw [List.take_of_length_le (by have := h.len; omega)]
      have H := Lib.hid h; clear h
      go_wp2_with fail
      go_ret
      exact ⟨rfl, rfl⟩
end Go.Proofs.Ytbnjeegicbffeaa
