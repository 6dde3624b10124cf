/- Walks: package markets: the order. Walks: slices.IndexFunc, ContainsFunc over lists of lists; markets.Check. Walks: package graphs: rises, Check, Fits, Many; slices.Index, Contains at ints. -/
import Derived.Test.YtkddkkcfpnndlaaGreatDoorPg01
import Derived.Test.YtkddkkcfpnndlaaGreatDoorPg02
namespace Go.Proofs.YtkddkkcfpnndlaaGreatDoor
open Go.RowKit

def onceTo (k : Nat) : List Int := (List.range 8).map fun j => if j < k then 1 else 0
def timesOf (l : List Int) : List Int := (List.range 8).map fun (j : Nat) => (l.count (j : Int) : Int)
theorem timesOf_get (l : List Int) {k : Nat} (h : k < 8) : (timesOf l)[k]? = some (l.count (k : Int) : Int) := by simp [timesOf, h]
theorem timesOf_set (l : List Int) (x : Int) {k : Nat} (h : k < 8) (hx : x = k) : (timesOf l).set k ((l.count (k : Int) : Int) + 1) = timesOf (l ++ [x]) := by
  subst hx
  apply List.ext_getElem?
  intro j
  rw [List.getElem?_set]
  by_cases hj : j < 8
  · rw [timesOf_get _ hj, timesOf_get _ hj]
    by_cases e : k = j
    · subst e; simp [timesOf, hj, List.count_append]
    · have : ¬ ((k : Int) = (j : Int)) := by omega
      simp [e, List.count_append, this]
  · have : k ≠ j := by omega
    rw [if_neg this, List.getElem?_eq_none (by simp [timesOf]; omega), List.getElem?_eq_none (by simp [timesOf]; omega)]

/-- an order has each of so many, once -/
def orderOk (l : List Int) (m : Nat) : Bool := l.all (fun x => decide (0 ≤ x ∧ x < m)) && (timesOf l == onceTo m)

end Go.Proofs.YtkddkkcfpnndlaaGreatDoor

namespace Go.Proofs.YtkddkkcfpnndlaaGreatDoor
open Go.RowKit

def idxOf (o : Option Nat) : Int := match o with | some k => k | none => -1

/-- what a function value is asked: of any list, behind whatever it makes -/
def Enters (g : Nat) : Prop := ∀ (args : Array Value) (w : World), (callFunc g args).run Tryz.prog w = .ok (.enter g args) w
def Asks (g : Nat) (v : Value) (w : World) (p : List Int → Bool) : Prop :=
  ∀ (w' : World) (a : Option Addr) (n c : Nat) (xs : List Int), Below w.heap.size w w' → Ints w' a n c xs →
    Calls Tryz.prog g #[.slice a n c, v] w' fun e w'' => e = .returned (.bool (p xs)) ∧ Below w'.heap.size w' w''

theorem findIdx_on {α : Type} {xs : List α} {p : α → Bool} {k : Nat} {x : α} (h : xs[k]? = some x) (hf : (xs.take k).findIdx? p = none) (hx : p x = false) : (xs.take (k + 1)).findIdx? p = none := by
  rw [List.take_add_one, h, List.findIdx?_append, hf]
  simp [hx]
theorem findIdx_at {α : Type} {xs : List α} {p : α → Bool} {k : Nat} {x : α} (h : xs[k]? = some x) (hf : (xs.take k).findIdx? p = none) (hx : p x = true) : xs.findIdx? p = some k := by
  have hk : k < xs.length := (List.getElem?_eq_some_iff.1 h).1
  have e : xs = xs.take k ++ x :: xs.drop (k + 1) := by
    have h2 : xs[k] = x := (List.getElem?_eq_some_iff.1 h).2
    rw [← h2, ← List.drop_eq_getElem_cons hk, List.take_append_drop]
  rw [e, List.findIdx?_append, hf]
  simp [List.findIdx?_cons, hx]; omega

set_option maxHeartbeats 400000 in
theorem indexRows_any (a : Option Addr) (n c : Nat) (xss : List (List Int)) (g : Nat) (v : Value) (p : List Int → Bool) (w : World) (h : Rows w a n c xss) (hg : Enters g) (hp : Asks g v w p) :
    Calls Tryz.prog 183 #[.slice a n c, .func (.func g) #[] #[v]] w fun e w' => e = .returned (.int .i64 (idxOf (xss.findIdx? p))) ∧ Below w.heap.size w w' := by
  have hb := h.big
  unfold Enters at hg
  go_enter Tryz.func183, Tryz.ntmps183
  go_wp2_with fail
  go_loopg [8] n (fun g' s8 wr => ∃ k : Nat, k + g' = n ∧ s8 = .int .i64 k ∧ Below w.heap.size w wr ∧ (xss.take k).findIdx? p = none)
  case atStart => exact ⟨0, by omega, rfl, Below.refl _ _, rfl⟩
  case round =>
    obtain ⟨k, hk, rfl, hB, hf⟩ := hrel
    by_cases hlt : k < n
    · obtain ⟨xs, hx⟩ := h.get hlt
      obtain ⟨b, o, rfl⟩ := h.addr (by omega)
      obtain ⟨a', n', c', hc, hi⟩ := (h.below hB (Nat.le_refl _)).cell b o rfl k xs hx
      have HP := Lib.hid (hp wr a' n' c' xs hB hi)
      have H := Lib.hid h; clear h hi hp
      have HF := Lib.hid hf; clear hf
      have HX := Lib.hid hx; clear hx
      have HK := Lib.hid hk; clear hk
      have HB := Lib.hid hB; clear hB
      cases hpx : p xs with
      | true =>
        have HQ := Lib.hid hpx; clear hpx
        go_wp2_with fail
        refine HP.out.mono ?_
        rw [HQ.out]
        rintro e w1 ⟨rfl, hb1⟩
        have HB1 := Lib.hid hb1; clear hb1
        go_wp2_with fail
        go_ret
        refine ⟨ret_int ?_, HB.out.trans (HB1.out.mono HB.out.size)⟩
        rw [findIdx_at HX.out HF.out HQ.out]; rfl
      | false =>
        have HQ := Lib.hid hpx; clear hpx
        go_wp2_with fail
        refine HP.out.mono ?_
        rw [HQ.out]
        rintro e w1 ⟨rfl, hb1⟩
        have HB1 := Lib.hid hb1; clear hb1
        go_wp2_with fail
        go_roundg (gk - 1)
        case measure => have := HK.out; omega
        case rel => exact ⟨k + 1, by have := HK.out; omega, by go_num, HB.out.trans (HB1.out.mono HB.out.size), findIdx_on HX.out HF.out HQ.out⟩
    · obtain rfl : k = n := by omega
      have HF := Lib.hid hf; clear hf
      have HB := Lib.hid hB; clear hB
      have H := Lib.hid h; clear h hp
      go_wp2_with fail
      go_ret
      refine ⟨ret_int ?_, HB.out⟩
      have hl := H.out.len
      have hf := HF.out
      rw [List.take_of_length_le (by omega)] at hf
      rw [hf]; rfl

theorem idxOf_ge (o : Option Nat) : decide (0 ≤ idxOf o) = o.isSome := by cases o <;> simp [idxOf]

set_option maxHeartbeats 400000 in
theorem containsRows_any (a : Option Addr) (n c : Nat) (xss : List (List Int)) (g : Nat) (v : Value) (p : List Int → Bool) (w : World) (h : Rows w a n c xss) (hg : Enters g) (hp : Asks g v w p) :
    Calls Tryz.prog 153 #[.slice a n c, .func (.func g) #[] #[v]] w fun e w' => e = .returned (.bool (xss.any p)) ∧ Below w.heap.size w w' := by
  have HH := Lib.hid h; clear h
  have HG := Lib.hid hg; clear hg
  have HP := Lib.hid hp; clear hp
  go_enter Tryz.func153, Tryz.ntmps153
  go_wp2_with fail
  refine (indexRows_any a n c xss g v p w HH.out HG.out HP.out).mono ?_
  rintro e w1 ⟨rfl, hb1⟩
  have HB1 := Lib.hid hb1; clear hb1
  go_wp2_with fail
  go_ret
  refine ⟨ret_bool ?_, HB1.out⟩
  rw [idxOf_ge, ← List.findIdx?_isSome]
end Go.Proofs.YtkddkkcfpnndlaaGreatDoor

namespace Go.Proofs.YtkddkkcfpnndlaaGreatDoor
open Go.RowKit

/-! ### slices.Index, Contains -/
set_option maxHeartbeats 400000 in
theorem index_any (a : Option Addr) (n c : Nat) (xs : List Int) (x : Int) (w : World) (h : Ints w a n c xs) :
    Calls Tryz.prog 184 #[.slice a n c, .int .i64 x] w fun e w' => e = .returned (.int .i64 (idxOf (xs.findIdx? fun y => x == y))) ∧ w = w' := by
  have hb := h.big
  go_enter Tryz.func184, Tryz.ntmps184
  go_wp2_with fail
  go_loopg [8] n (fun g' s8 wr => ∃ k : Nat, k + g' = n ∧ s8 = .int .i64 k ∧ wr = w ∧ (xs.take k).findIdx? (fun y => x == y) = none)
  case atStart => exact ⟨0, by omega, rfl, rfl, rfl⟩
  case round =>
    obtain ⟨k, hk, rfl, rfl, hf⟩ := hrel
    by_cases hlt : k < n
    · obtain ⟨y, hx, _⟩ := h.get hlt
      obtain ⟨b, o, rfl⟩ := h.addr (by omega)
      have hc := h.cell b o rfl k y hx
      have H := Lib.hid h; clear h
      have HF := Lib.hid hf; clear hf
      have HX := Lib.hid hx; clear hx
      have HK := Lib.hid hk; clear hk
      cases hpx : (x == y) with
      | true =>
        go_wp2_with fail
        go_ret
        refine ⟨ret_int ?_, rfl⟩
        rw [findIdx_at (p := fun y => x == y) HX.out HF.out hpx]; rfl
      | false =>
        go_wp2_with fail
        go_roundg (gk - 1)
        case measure => have := HK.out; omega
        case rel => exact ⟨k + 1, by have := HK.out; omega, by go_num, rfl, findIdx_on (p := fun y => x == y) HX.out HF.out hpx⟩
    · obtain rfl : k = n := by omega
      have HF := Lib.hid hf; clear hf
      have H := Lib.hid h; clear h
      go_wp2_with fail
      go_ret
      refine ⟨ret_int ?_, rfl⟩
      have hl := H.out.len
      have hf := HF.out
      rw [List.take_of_length_le (by omega)] at hf
      rw [hf]; rfl

theorem contains_any (a : Option Addr) (n c : Nat) (xs : List Int) (x : Int) (w : World) (h : Ints w a n c xs) :
    Calls Tryz.prog 158 #[.slice a n c, .int .i64 x] w fun e w' => e = .returned (.bool (xs.contains x)) ∧ w = w' := by
  have HH := Lib.hid h; clear h
  go_enter Tryz.func158, Tryz.ntmps158
  go_wp2_with fail
  refine (index_any a n c xs x w HH.out).mono ?_
  rintro e w1 ⟨rfl, rfl⟩
  go_wp2_with fail
  go_ret
  refine ⟨ret_bool ?_, rfl⟩
  rw [idxOf_ge, List.findIdx?_isSome, List.contains_eq_any_beq]

/-! ### rises -/
/-- does a list rise from above some number on, below another? -/
def risesFrom (many : Int) : Int → List Int → Bool
  | _, [] => true
  | last, n :: l => decide (last < n ∧ n < many) && risesFrom many n l

set_option maxHeartbeats 400000 in
theorem rises_any (a : Option Addr) (n c : Nat) (xs : List Int) (many : Int) (w : World) (h : Ints w a n c xs) :
    Calls Tryz.prog 195 #[.slice a n c, .int .i64 many] w fun e w' => e = .returned (.bool (risesFrom many (-1) xs)) ∧ w = w' := by
  have hb := h.big
  go_enter Tryz.func195, Tryz.ntmps195
  go_wp2_with fail
  go_loopg [5, 10] n (fun g' s5 s10 wr => ∃ k : Nat, k + g' = n ∧ s10 = .int .i64 k ∧ wr = w ∧ ∃ last : Int, s5 = .int .i64 last ∧ risesFrom many (-1) xs = risesFrom many last (xs.drop k))
  case atStart => exact ⟨0, by omega, rfl, rfl, -1, rfl, rfl⟩
  case round =>
    obtain ⟨k, hk, rfl, rfl, last, rfl, hr⟩ := hrel
    by_cases hlt : k < n
    · obtain ⟨x, hx, _⟩ := h.get hlt
      obtain ⟨b, o, rfl⟩ := h.addr (by omega)
      have hc := h.cell b o rfl k x hx
      have hd : xs.drop k = x :: xs.drop (k + 1) := by
        have h2 : xs[k]'(by have := h.len; omega) = x := by
          have := (List.getElem?_eq_some_iff.1 hx).2; exact this
        rw [← h2]; exact List.drop_eq_getElem_cons _
      rw [hd] at hr
      have HR := Lib.hid hr; clear hr
      have HD := Lib.hid hd; clear hd
      have H := Lib.hid h; clear h
      have HX := Lib.hid hx; clear hx
      have HK := Lib.hid hk; clear hk
      by_cases h1 : x ≤ last
      · go_wp2_with fail
        go_ret
        exact ⟨ret_bool (by rw [HR.out]; simp [risesFrom]; omega), rfl⟩
      · by_cases h2 : many ≤ x
        · go_wp2_with fail
          go_ret
          exact ⟨ret_bool (by rw [HR.out]; simp [risesFrom]; omega), rfl⟩
        · go_wp2_with fail
          go_roundg (gk - 1)
          case measure => have := HK.out; omega
          case rel => exact ⟨k + 1, by have := HK.out; omega, by go_num, rfl, x, rfl, by rw [HR.out]; simp [risesFrom]; omega⟩
    · obtain rfl : k = n := by omega
      have hd : xs.drop k = [] := List.drop_eq_nil_of_le (by have := h.len; omega)
      rw [hd] at hr
      have HR := Lib.hid hr; clear hr hd
      have H := Lib.hid h; clear h
      go_wp2_with fail
      go_ret
      exact ⟨ret_bool (by rw [HR.out]; rfl), rfl⟩

/-! ### Check -/
/-- may that be who may have which items, of so many? -/
def gcheck (g : List (List Int)) (items : Int) : Bool := decide (0 ≤ items) && decide (items ≤ 8) && decide (g.length ≤ 8) && !(g.any fun l => !risesFrom items (-1) l)

theorem notRises_any (a : Option Addr) (n c : Nat) (xs : List Int) (items : Int) (B : Nat) (w : World) (h : Ints w a n c xs) (hB : w.cell? ⟨B, 0, none⟩ = some (.int .i64 items)) :
    Calls Tryz.prog 194 #[.slice a n c, .pointer (some ⟨B, 0, none⟩)] w fun e w' => e = .returned (.bool (!risesFrom items (-1) xs)) ∧ Below w.heap.size w w' := by
  have H := Lib.hid h; clear h
  go_enter Tryz.func194, Tryz.ntmps194
  go_wp2_with fail
  refine (rises_any a n c xs items w H.out).mono ?_
  rintro e w1 ⟨rfl, rfl⟩
  go_wp2_with fail
  go_ret
  exact ⟨rfl, Below.refl _ _⟩

theorem entersRises : Enters 194 := fun args w => by
  simp [callFunc, Tryz.func194]
  kernel_rfl

set_option maxHeartbeats 400000 in
theorem gcheck_any (a : Option Addr) (n c : Nat) (g : List (List Int)) (items : Int) (w : World) (h : Rows w a n c g) :
    Calls Tryz.prog 169 #[.slice a n c, .int .i64 items] w fun e w' => e = .returned (.bool (gcheck g items)) ∧ Below w.heap.size w w' := by
  have hl := h.len
  have hbig := h.big
  have H := Lib.hid h; clear h
  have HL := Lib.hid hl; clear hl
  go_enter Tryz.func169, Tryz.ntmps169
  have hal : Below w.heap.size w (w.alloc (.cells #[.int .i64 items] 3)) := (Below.refl _ _).alloc (Nat.le_refl _) _
  have HAL := Lib.hid hal; clear hal
  by_cases h1 : 0 ≤ items
  · by_cases h2 : items ≤ 8
    · by_cases h3 : n ≤ 8
      · go_wp2_with fail
        refine (containsRows_any a n c g 194 (.pointer (some ⟨w.heap.size, 0, none⟩)) (fun l => !risesFrom items (-1) l) _ (H.out.below HAL.out (Nat.le_refl _)) entersRises ?_).mono ?_
        · intro w' a n c xs hb3 h3
          exact notRises_any a n c xs items w.heap.size w' h3 (by rw [hb3.cell (p := ⟨w.heap.size, 0, none⟩) (by simp)]; simp [go_sem])
        · rintro e w3 ⟨rfl, hb3⟩
          have HB3 := Lib.hid hb3; clear hb3
          go_wp2_with fail
          go_ret
          refine ⟨ret_bool ?_, HAL.out.trans (HB3.out.mono (by simp))⟩
          have e : g.length ≤ 8 := by rw [HL.out]; exact h3
          simp [gcheck, h1, h2, e]
      · have hd : decide (n ≤ 8) = false := by simp; omega
        go_wp2_with fail
        go_ret
        refine ⟨ret_bool ?_, HAL.out⟩
        have e : ¬ g.length ≤ 8 := by rw [HL.out]; exact h3
        simp [gcheck, e]
    · have hd : decide (items ≤ 8) = false := by simp; omega
      go_wp2_with fail
      go_ret
      refine ⟨ret_bool ?_, HAL.out⟩
      simp only [gcheck, hd, Bool.and_false, Bool.false_and]
  · have hd : decide (0 ≤ items) = false := by simp; omega
    go_wp2_with fail
    go_ret
    refine ⟨ret_bool ?_, HAL.out⟩
    simp only [gcheck, hd, Bool.false_and]

/-! ### Many -/
end Go.Proofs.YtkddkkcfpnndlaaGreatDoor
