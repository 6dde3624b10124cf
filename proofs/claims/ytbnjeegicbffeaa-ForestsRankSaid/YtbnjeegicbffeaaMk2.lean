/- Walks: slices.IndexFunc, ContainsFunc over lists of lists; markets.Check. -/
import Derived.Test.YtbnjeegicbffeaaMk1
namespace Go.Proofs.Ytbnjeegicbffeaa
open Go.RowKit

def idxOf (o : Option Nat) : Int := match o with | some k => k | none => -1

/-- what a function value is asked: of any list, behind whatever it makes -/
def Enters (g : Nat) : Prop := ∀ (args : Array Value) (w : World), (callFunc g args).run Try.prog w = .ok (.enter g args) w
def Asks (g : Nat) (v : Value) (w : World) (p : List Int → Bool) : Prop :=
  ∀ (w' : World) (a : Option Addr) (n c : Nat) (xs : List Int), Below w.heap.size w w' → Ints w' a n c xs →
    Calls Try.prog g #[.slice a n c, v] w' fun e w'' => e = .returned (.bool (p xs)) ∧ Below w'.heap.size w' w''

theorem findIdx_on {α : Type} {xs : List α} {p : α → Bool} {k : Nat} {x : α} (h : xs[k]? = some x) (hf : (xs.take k).findIdx? p = none) (hx : p x = false) : (xs.take (k + 1)).findIdx? p = none := by
  rw [List.take_add_one, h, List.findIdx?_append, hf]
  simp [hx]
theorem findIdx_at {α : Type} {xs : List α} {p : α → Bool} {k : Nat} {x : α} (h : xs[k]? = some x) (hf : (xs.take k).findIdx? p = none) (hx : p x = true) : xs.findIdx? p = some k := by
  have hk : k < xs.length := (List.getElem?_eq_some_iff.1 h).1
  have e : xs = xs.take k ++ x :: xs.drop (k + 1) := by
    have h2 : xs[k] = x := (List.getElem?_eq_some_iff.1 h).2
    rw [← h2, ← List.drop_eq_getElem_cons hk, List.take_append_drop]
  rw [e, List.findIdx?_append, hf]
  simp [List.findIdx?_cons, hx]; omega

set_option maxHeartbeats 400000 in
theorem indexRows_any (a : Option Addr) (n c : Nat) (xss : List (List Int)) (g : Nat) (v : Value) (p : List Int → Bool) (w : World) (h : Rows w a n c xss) (hg : Enters g) (hp : Asks g v w p) :
    Calls Try.prog 83 #[.slice a n c, .func (.func g) #[] #[v]] w fun e w' => e = .returned (.int .i64 (idxOf (xss.findIdx? p))) ∧ Below w.heap.size w w' := by
  have hb := h.big
  unfold Enters at hg
  go_enter Try.func83, Try.ntmps83
  go_wp2_with fail
  go_loopg [8] n (fun g' s8 wr => ∃ k : Nat, k + g' = n ∧ s8 = .int .i64 k ∧ Below w.heap.size w wr ∧ (xss.take k).findIdx? p = none)
  case atStart => exact ⟨0, by omega, rfl, Below.refl _ _, rfl⟩
  case round =>
    obtain ⟨k, hk, rfl, hB, hf⟩ := hrel
    by_cases hlt : k < n
    · obtain ⟨xs, hx⟩ := h.get hlt
      obtain ⟨b, o, rfl⟩ := h.addr (by omega)
      obtain ⟨a', n', c', hc, hi⟩ := (h.below hB (Nat.le_refl _)).cell b o rfl k xs hx
      have HP := Lib.hid (hp wr a' n' c' xs hB hi)
      have H := Lib.hid h; clear h hi hp
      have HF := Lib.hid hf; clear hf
      have HX := Lib.hid hx; clear hx
      have HK := Lib.hid hk; clear hk
      have HB := Lib.hid hB; clear hB
      cases hpx : p xs with
      | true =>
        have HQ := Lib.hid hpx; clear hpx
        go_wp2_with fail
        refine HP.out.mono ?_
        rw [HQ.out]
        rintro e w1 ⟨rfl, hb1⟩
        have HB1 := Lib.hid hb1; clear hb1
        go_wp2_with fail
        go_ret
        refine ⟨ret_int ?_, HB.out.trans (HB1.out.mono HB.out.size)⟩
        rw [findIdx_at HX.out HF.out HQ.out]; rfl
      | false =>
        have HQ := Lib.hid hpx; clear hpx
        go_wp2_with fail
        refine HP.out.mono ?_
        rw [HQ.out]
        rintro e w1 ⟨rfl, hb1⟩
        have HB1 := Lib.hid hb1; clear hb1
        go_wp2_with fail
        go_roundg (gk - 1)
        case measure => have := HK.out; omega
        case rel => exact ⟨k + 1, by have := HK.out; omega, by go_num, HB.out.trans (HB1.out.mono HB.out.size), findIdx_on HX.out HF.out HQ.out⟩
    · obtain rfl : k = n := by omega
      have HF := Lib.hid hf; clear hf
      have HB := Lib.hid hB; clear hB
      have H := Lib.hid h; clear h hp
      go_wp2_with fail
      go_ret
      refine ⟨ret_int ?_, HB.out⟩
      have hl := H.out.len
      have hf := HF.out
      rw [List.take_of_length_le (by omega)] at hf
      rw [hf]; rfl

theorem idxOf_ge (o : Option Nat) : decide (0 ≤ idxOf o) = o.isSome := by cases o <;> simp [idxOf]

set_option maxHeartbeats 400000 in
theorem containsRows_any (a : Option Addr) (n c : Nat) (xss : List (List Int)) (g : Nat) (v : Value) (p : List Int → Bool) (w : World) (h : Rows w a n c xss) (hg : Enters g) (hp : Asks g v w p) :
    Calls Try.prog 65 #[.slice a n c, .func (.func g) #[] #[v]] w fun e w' => e = .returned (.bool (xss.any p)) ∧ Below w.heap.size w w' := by
  have HH := Lib.hid h; clear h
  have HG := Lib.hid hg; clear hg
  have HP := Lib.hid hp; clear hp
  go_enter Try.func65, Try.ntmps65
  go_wp2_with fail
  refine (indexRows_any a n c xss g v p w HH.out HG.out HP.out).mono ?_
  rintro e w1 ⟨rfl, hb1⟩
  have HB1 := Lib.hid hb1; clear hb1
  go_wp2_with fail
  go_ret
  refine ⟨ret_bool ?_, HB1.out⟩
  rw [idxOf_ge, ← List.findIdx?_isSome]
end Go.Proofs.Ytbnjeegicbffeaa
