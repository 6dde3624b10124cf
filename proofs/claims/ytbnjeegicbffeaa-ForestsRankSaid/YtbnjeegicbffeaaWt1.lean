/- Walks: package weights: check, most. -/
import Derived.Test.YtbnjeegicbffeaaMk2
namespace Go.Proofs.Ytbnjeegicbffeaa
open Go.RowKit

/-- a number that a gain may not be -/
def badGain (x : Int) : Bool := decide (x < -1000000) || decide (1000000 < x)

theorem badGain_any (x : Int) (w : World) :
    Calls Try.prog 72 #[.int .i64 x] w fun e w' => e = .returned (.bool (badGain x)) ∧ w = w' := by
  by_cases h : x < -1000000
  · go_enter Try.func72, Try.ntmps72
    go_wp2_with fail
    go_ret
    exact ⟨ret_bool (by simp [badGain, h]), rfl⟩
  · go_enter Try.func72, Try.ntmps72
    go_wp2_with fail
    go_ret
    exact ⟨ret_bool (by simp [badGain]; omega), rfl⟩

theorem enters72 : Enters 72 := fun args w => by
  simp [callFunc, Try.func72]
  kernel_rfl
theorem enters70 : Enters 70 := fun args w => by
  simp [callFunc, Try.func70]
  kernel_rfl

set_option maxHeartbeats 400000 in
theorem indexGain_any (a : Option Addr) (n c : Nat) (xs : List Int) (w : World) (h : Ints w a n c xs) :
    Calls Try.prog 86 #[.slice a n c, .func (.func 72) #[] #[]] w fun e w' => e = .returned (.int .i64 (idxOf (xs.findIdx? badGain))) ∧ w = w' := by
  have hb := h.big
  go_enter Try.func86, Try.ntmps86
  go_wp2_with fail
  go_loopg [8] n (fun g' s8 wr => ∃ k : Nat, k + g' = n ∧ s8 = .int .i64 k ∧ wr = w ∧ (xs.take k).findIdx? badGain = none)
  case atStart => exact ⟨0, by omega, rfl, rfl, rfl⟩
  case round =>
    obtain ⟨k, hk, rfl, rfl, hf⟩ := hrel
    by_cases hlt : k < n
    · obtain ⟨x, hx, _⟩ := h.get hlt
      obtain ⟨b, o, rfl⟩ := h.addr (by omega)
      have hc := h.cell b o rfl k x hx
      have H := Lib.hid h; clear h
      have HF := Lib.hid hf; clear hf
      have HX := Lib.hid hx; clear hx
      have HK := Lib.hid hk; clear hk
      cases hpx : badGain x with
      | true =>
        have HQ := Lib.hid hpx; clear hpx
        go_wp2_with fail
        refine (badGain_any x wr).mono ?_
        rw [HQ.out]
        rintro e w1 ⟨rfl, rfl⟩
        go_wp2_with fail
        go_ret
        refine ⟨ret_int ?_, rfl⟩
        rw [findIdx_at HX.out HF.out HQ.out]; rfl
      | false =>
        have HQ := Lib.hid hpx; clear hpx
        go_wp2_with fail
        refine (badGain_any x wr).mono ?_
        rw [HQ.out]
        rintro e w1 ⟨rfl, rfl⟩
        go_wp2_with fail
        go_roundg (gk - 1)
        case measure => have := HK.out; omega
        case rel => exact ⟨k + 1, by have := HK.out; omega, by go_num, rfl, findIdx_on HX.out HF.out HQ.out⟩
    · obtain rfl : k = n := by omega
      have HF := Lib.hid hf; clear hf
      have H := Lib.hid h; clear h
      go_wp2_with fail
      go_ret
      refine ⟨ret_int ?_, rfl⟩
      have hl := H.out.len
      have hf := HF.out
      rw [List.take_of_length_le (by omega)] at hf
      rw [hf]; rfl

set_option maxHeartbeats 400000 in
theorem containsGain_any (a : Option Addr) (n c : Nat) (xs : List Int) (w : World) (h : Ints w a n c xs) :
    Calls Try.prog 71 #[.slice a n c, .func (.func 72) #[] #[]] w fun e w' => e = .returned (.bool (xs.any badGain)) ∧ w = w' := by
  have HH := Lib.hid h; clear h
  go_enter Try.func71, Try.ntmps71
  go_wp2_with fail
  refine (indexGain_any a n c xs w HH.out).mono ?_
  rintro e w1 ⟨rfl, rfl⟩
  go_wp2_with fail
  go_ret
  refine ⟨ret_bool ?_, rfl⟩
  rw [idxOf_ge, ← List.findIdx?_isSome]

/-- a list of gains that may not be, of so many items -/
def badGains (items : Int) (l : List Int) : Bool := !decide ((l.length : Int) = items) || l.any badGain

set_option maxHeartbeats 400000 in
theorem badGains_any (a : Option Addr) (n c : Nat) (xs : List Int) (items : Int) (B : Nat) (w : World) (h : Ints w a n c xs) (hB : w.cell? ⟨B, 0, none⟩ = some (.int .i64 items)) :
    Calls Try.prog 70 #[.slice a n c, .pointer (some ⟨B, 0, none⟩)] w fun e w' => e = .returned (.bool (badGains items xs)) ∧ Below w.heap.size w w' := by
  have hl := h.len
  have H := Lib.hid h; clear h
  by_cases e : (n : Int) = items
  · have e1 : ((n : Int) != items) = false := by simp [e]
    have E := Lib.hid e; clear e
    have HL := Lib.hid hl; clear hl
    go_enter Try.func70, Try.ntmps70
    go_wp2_with fail
    refine (containsGain_any a n c xs w H.out).mono ?_
    rintro e w1 ⟨rfl, rfl⟩
    go_wp2_with fail
    go_ret
    refine ⟨ret_bool ?_, Below.refl _ _⟩
    rw [badGains, HL.out]; simp [E.out]
  · have e1 : ((n : Int) != items) = true := by simp [e]
    have E := Lib.hid e; clear e
    have HL := Lib.hid hl; clear hl
    go_enter Try.func70, Try.ntmps70
    go_wp2_with fail
    go_ret
    refine ⟨ret_bool ?_, Below.refl _ _⟩
    rw [badGains, HL.out]; simp [E.out]

/-- may gains be? -/
def wcheck (gains : List (List Int)) (items : Int) : Bool := decide (1 ≤ items) && decide (items ≤ 8) && decide (gains.length ≤ 8) && !(gains.any (badGains items))

set_option maxHeartbeats 400000 in
theorem wcheck_any (a : Option Addr) (n c : Nat) (gains : List (List Int)) (items : Int) (w : World) (h : Rows w a n c gains) :
    Calls Try.prog 47 #[.slice a n c, .int .i64 items] w fun e w' => e = .returned (.bool (wcheck gains items)) ∧ Below w.heap.size w w' := by
  have hl := h.len
  have hbig := h.big
  have H := Lib.hid h; clear h
  have HL := Lib.hid hl; clear hl
  go_enter Try.func47, Try.ntmps47
  by_cases h1 : 1 ≤ items
  · by_cases h2 : items ≤ 8
    · by_cases h3 : n ≤ 8
      · go_wp2_with fail
        refine (containsRows_any a n c gains 70 (.pointer (some ⟨w.heap.size, 0, none⟩)) (badGains items) _ (H.out.below (w' := w.alloc (.cells #[.int .i64 items] 3)) ((Below.refl _ _).alloc (Nat.le_refl _) _) (Nat.le_refl _)) enters70 ?_).mono ?_
        · intro w' a n c xs hb3 h3
          exact badGains_any a n c xs items w.heap.size w' h3 (by rw [hb3.cell (p := ⟨w.heap.size, 0, none⟩) (by simp)]; simp [go_sem])
        · rintro e w3 ⟨rfl, hb3⟩
          have HB3 := Lib.hid hb3; clear hb3
          go_wp2_with fail
          go_ret
          refine ⟨ret_bool ?_, ((Below.refl _ _).alloc (Nat.le_refl _) _).trans (HB3.out.mono (by simp))⟩
          rw [wcheck, HL.out]; simp [h1, h2, h3]
      · go_wp2_with fail
        go_ret
        exact ⟨ret_bool (by rw [wcheck, HL.out]; simp [h3]), (Below.refl _ _).alloc (Nat.le_refl _) _⟩
    · go_wp2_with fail
      go_ret
      exact ⟨ret_bool (by rw [wcheck]; simp; intros; omega), (Below.refl _ _).alloc (Nat.le_refl _) _⟩
  · go_wp2_with fail
    go_ret
    exact ⟨ret_bool (by rw [wcheck]; simp; intros; omega), (Below.refl _ _).alloc (Nat.le_refl _) _⟩

def mostOf (x : Int) (l : List Int) : Int := l.foldl max x

set_option maxHeartbeats 400000 in
theorem most_any (x : Int) (a : Option Addr) (n c : Nat) (xs : List Int) (w : World) (h : Ints w a n c xs) :
    Calls Try.prog 73 #[.int .i64 x, .slice a n c] w fun e w' => e = .returned (.int .i64 (mostOf x xs)) ∧ w = w' := by
  have hb := h.big
  go_enter Try.func73, Try.ntmps73
  go_wp2_with fail
  go_loopg [0, 9] n (fun g' s0 s9 wr => ∃ k : Nat, k + g' = n ∧ s9 = .int .i64 k ∧ s0 = .int .i64 (mostOf x (xs.take k)) ∧ wr = w)
  case atStart => exact ⟨0, by omega, rfl, rfl, rfl⟩
  case round =>
    obtain ⟨k, hk, rfl, rfl, rfl⟩ := hrel
    by_cases hlt : k < n
    · obtain ⟨y, hx, _⟩ := h.get hlt
      obtain ⟨b, o, rfl⟩ := h.addr (by omega)
      have hc := h.cell b o rfl k y hx
      have e1 : mostOf x (xs.take (k + 1)) = max (mostOf x (xs.take k)) y := by
        rw [List.take_add_one, hx]; simp [mostOf]
      have E := Lib.hid e1; clear e1
      have H := Lib.hid h; clear h
      have HX := Lib.hid hx; clear hx
      have HK := Lib.hid hk; clear hk
      generalize hm : mostOf x (xs.take k) = z at *
      have HM := Lib.hid hm; clear hm
      by_cases hz : z < y
      · go_wp2_with fail
        go_roundg (gk - 1)
        case measure => have := HK.out; omega
        case rel => exact ⟨k + 1, by have := HK.out; omega, by go_num, by rw [E.out]; congr 1; omega, rfl⟩
      · go_wp2_with fail
        go_roundg (gk - 1)
        case measure => have := HK.out; omega
        case rel => exact ⟨k + 1, by have := HK.out; omega, by go_num, by rw [E.out]; congr 1; omega, rfl⟩
    · obtain rfl : k = n := by omega
      have hl := h.len
      have e1 : mostOf x (xs.take k) = mostOf x xs := by rw [List.take_of_length_le (by omega)]
      rw [e1]; clear e1
      have HL := Lib.hid hl; clear hl
      have H := Lib.hid h; clear h
      go_wp2_with fail
      go_ret
      exact ⟨rfl, rfl⟩
end Go.Proofs.Ytbnjeegicbffeaa
