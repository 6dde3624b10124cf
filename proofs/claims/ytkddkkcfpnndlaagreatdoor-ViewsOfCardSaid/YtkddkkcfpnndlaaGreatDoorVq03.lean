/- Walks: package markets: the order. Walks: slices.IndexFunc, ContainsFunc over lists of lists; markets.Check. Walks: package weights: check, most. Walks: package graphs: rises, Check, Fits, Many; slices.Index, Contains at ints. -/
import Derived.Test.YtkddkkcfpnndlaaGreatDoorVq01
import Derived.Test.YtkddkkcfpnndlaaGreatDoorVq02
namespace Go.Proofs.YtkddkkcfpnndlaaGreatDoor
open Go.RowKit

def onceTo (k : Nat) : List Int := (List.range 8).map fun j => if j < k then 1 else 0
def timesOf (l : List Int) : List Int := (List.range 8).map fun (j : Nat) => (l.count (j : Int) : Int)
theorem onceTo_get {m k : Nat} (h : k < 8) : (onceTo m)[k]? = some (if k < m then 1 else 0) := by simp [onceTo, h]
theorem onceTo_set {k : Nat} (h : k < 8) : (onceTo k).set k 1 = onceTo (k + 1) := by
  have : ∀ k, k < 8 → (onceTo k).set k 1 = onceTo (k + 1) := by decide
  exact this k h
theorem timesOf_get (l : List Int) {k : Nat} (h : k < 8) : (timesOf l)[k]? = some (l.count (k : Int) : Int) := by simp [timesOf, h]
theorem timesOf_set (l : List Int) (x : Int) {k : Nat} (h : k < 8) (hx : x = k) : (timesOf l).set k ((l.count (k : Int) : Int) + 1) = timesOf (l ++ [x]) := by
  subst hx
  apply List.ext_getElem?
  intro j
  rw [List.getElem?_set]
  by_cases hj : j < 8
  · rw [timesOf_get _ hj, timesOf_get _ hj]
    by_cases e : k = j
    · subst e; simp [timesOf, hj, List.count_append]
    · have : ¬ ((k : Int) = (j : Int)) := by omega
      simp [e, List.count_append, this]
  · have : k ≠ j := by omega
    rw [if_neg this, List.getElem?_eq_none (by simp [timesOf]; omega), List.getElem?_eq_none (by simp [timesOf]; omega)]

/-- an order has each of so many, once -/
def orderOk (l : List Int) (m : Nat) : Bool := l.all (fun x => decide (0 ≤ x ∧ x < m)) && (timesOf l == onceTo m)

theorem orderOk_no {xs : List Int} {m k : Nat} {x : Int} (h : xs[k]? = some x) (hx : x < 0 ∨ (m : Int) ≤ x) : orderOk xs m = false := by
  have : xs.all (fun x => decide (0 ≤ x ∧ x < m)) = false := by
    rw [List.all_eq_false]
    exact ⟨x, List.mem_of_getElem? h, by simp; omega⟩
  unfold orderOk; rw [this]; rfl

set_option maxHeartbeats 400000 in
theorem ordered_any (a : Option Addr) (n c : Nat) (xs : List Int) (m : Nat) (w : World) (h : Ints w a n c xs) (hm : m ≤ 8) :
    Calls Tryz.prog 152 #[.slice a n c, .int .i64 m] w fun e w' => e = .returned (.bool (orderOk xs m)) ∧ Below w.heap.size w w' := by
  have hb := h.big
  go_enter Tryz.func152, Tryz.ntmps152
  go_wp2_with fail
  go_loopg [11] m (fun g s11 wr => ∃ k : Nat, k + g = m ∧ s11 = .int .i64 k ∧ Row wr w.heap.size 114 (timesOf []) ∧ Row wr (w.heap.size + 1) 114 (onceTo k) ∧ Below w.heap.size w wr)
  case atStart =>
    exact ⟨0, by omega, rfl, (Row.new _ _ (timesOf [])).alloc _, Row.new' _ _ (onceTo 0) (by simp), ((Below.refl _ _).alloc (Nat.le_refl _) _).alloc (by simp) _⟩
  case round =>
    obtain ⟨k, hk, rfl, ht, ho, hB⟩ := hrel
    by_cases hlt : k < m
    · have hc := ho.cell (onceTo_get (m := k) (k := k) (by omega))
      have hf := ho.frozen k
      have HK := Lib.hid hk; clear hk
      have HT := Lib.hid ht; clear ht
      have HO := Lib.hid ho; clear ho
      have HB := Lib.hid hB; clear hB
      have H := Lib.hid h; clear h
      go_wp2_with fail
      go_roundg (gk - 1)
      case measure => have := HK.out; omega
      case rel => exact ⟨k + 1, by have := HK.out; omega, by go_num, HT.out.other (by simp) _, by rw [← onceTo_set (by omega)]; exact HO.out.set k 1, HB.out.setCell (by simp) _⟩
    · obtain rfl : k = m := by omega
      have HT := Lib.hid ht; clear ht
      have HO := Lib.hid ho; clear ho
      have HB := Lib.hid hB; clear hB
      go_wp2_with fail
      obtain ⟨w1, rfl⟩ : ∃ w1 : World, w1 = wr := ⟨_, rfl⟩
      go_loopg [19] n (fun g s19 wr => ∃ j : Nat, j + g = n ∧ s19 = .int .i64 j ∧ Row wr w.heap.size 114 (timesOf (xs.take j)) ∧ Row wr (w.heap.size + 1) 114 (onceTo k) ∧ Below w.heap.size w wr ∧ (xs.take j).all (fun x => decide (0 ≤ x ∧ x < k)) = true)
      case atStart => exact ⟨0, by omega, rfl, HT.out, HO.out, HB.out, rfl⟩
      case round =>
        obtain ⟨j, hj, rfl, ht, ho, hB, hall⟩ := hrel
        by_cases hlt : j < n
        · obtain ⟨x, hx, _⟩ := h.get hlt
          obtain ⟨b, o, rfl⟩ := h.addr (by omega)
          have h1 := h.below hB (Nat.le_refl _)
          have hc := h1.cell b o rfl j x hx
          have HX := Lib.hid hx; clear hx
          have HJ := Lib.hid hj; clear hj
          have HA := Lib.hid hall; clear hall
          have HB := Lib.hid hB; clear hB
          have H := Lib.hid h; clear h h1
          by_cases hx0 : x < 0
          · have HT := Lib.hid ht; clear ht
            have HO := Lib.hid ho; clear ho
            go_wp2_with fail
            go_ret
            exact ⟨ret_bool (by rw [orderOk_no HX.out (.inl hx0)]), HB.out⟩
          · by_cases hx1 : (k : Int) ≤ x
            · have HT := Lib.hid ht; clear ht
              have HO := Lib.hid ho; clear ho
              go_wp2_with fail
              go_ret
              exact ⟨ret_bool (by rw [orderOk_no HX.out (.inr hx1)]), HB.out⟩
            · obtain ⟨q, rfl⟩ : ∃ q : Nat, x = q := ⟨x.toNat, by omega⟩
              have hq : q < 8 := by omega
              have hc2 := ht.cell (timesOf_get (xs.take j) hq)
              have hf := ht.frozen q
              have hcl : (xs.take j).count (q : Int) ≤ j := Nat.le_trans List.count_le_length (by simp; omega)
              have e1 : IntKind.i64.wrap (((xs.take j).count (q : Int) : Int) + 1) = ((xs.take j).count (q : Int) : Int) + 1 := IntWalk.i64_in _ (by omega)
              generalize hcc : (xs.take j).count (q : Int) = cc at hc2 e1 hcl
              have HC := Lib.hid hcc; clear hcc
              have HT := Lib.hid ht; clear ht
              have HO := Lib.hid ho; clear ho
              go_wp2_with fail
              go_roundg (gk - 1)
              case measure => have := HJ.out; omega
              case rel =>
                refine ⟨j + 1, by have := HJ.out; omega, by go_num, ?_, HO.out.other (by simp) _, HB.out.setCell (by simp) _, ?_⟩
                · have := HT.out.set q ((cc : Int) + 1)
                  rw [← HC.out, timesOf_set _ _ hq rfl] at this
                  rw [← HC.out, List.take_add_one, HX.out]; exact this
                · rw [List.take_add_one, HX.out, List.all_append, HA.out]; simp; omega
        · obtain rfl : j = n := by omega
          have HA := Lib.hid hall; clear hall
          have HB := Lib.hid hB; clear hB
          have hz1 : (iarr (timesOf (xs.take j))).size = 8 := rfl
          have hz2 : (iarr (onceTo k)).size = 8 := rfl
          have hq : ∀ w, (binOp .eql 114 (.agg (iarr (timesOf (xs.take j)))) (.agg (iarr (onceTo k)))).run Tryz.prog w = .ok (.bool (timesOf (xs.take j) == onceTo k)) w :=
            fun w => run_eql_iarr w 114 3 _ _ 8 Tryz.underlying114 Tryz.underlying3 (by kernel_rfl) rfl rfl
          have HT := Lib.hid ht; clear ht
          have HO := Lib.hid ho; clear ho
          have H := Lib.hid h; clear h
          go_wp2_with (first | (refine wpList_load_row rfl 114 _ rfl w.heap.size rfl 114 (iarr (timesOf (xs.take j))) (0, 0) _ HT.out Tryz.underlying114 rfl (by kernel_rfl) ?_) | (refine wpList_load_row rfl 114 _ rfl (w.heap.size + 1) rfl 114 (iarr (onceTo k)) (0, 0) _ HO.out Tryz.underlying114 rfl (by kernel_rfl) ?_))
          go_ret
          refine ⟨ret_bool ?_, HB.out⟩
          have ha := HA.out
          have hl := H.out.len
          rw [List.take_of_length_le (by omega)] at ha ⊢
          unfold orderOk
          rw [ha]; rfl
end Go.Proofs.YtkddkkcfpnndlaaGreatDoor

namespace Go.Proofs.YtkddkkcfpnndlaaGreatDoor
open Go.RowKit

def idxOf (o : Option Nat) : Int := match o with | some k => k | none => -1

/-- what a function value is asked: of any list, behind whatever it makes -/
def Enters (g : Nat) : Prop := ∀ (args : Array Value) (w : World), (callFunc g args).run Tryz.prog w = .ok (.enter g args) w
def Asks (g : Nat) (v : Value) (w : World) (p : List Int → Bool) : Prop :=
  ∀ (w' : World) (a : Option Addr) (n c : Nat) (xs : List Int), Below w.heap.size w w' → Ints w' a n c xs →
    Calls Tryz.prog g #[.slice a n c, v] w' fun e w'' => e = .returned (.bool (p xs)) ∧ Below w'.heap.size w' w''

theorem findIdx_on {α : Type} {xs : List α} {p : α → Bool} {k : Nat} {x : α} (h : xs[k]? = some x) (hf : (xs.take k).findIdx? p = none) (hx : p x = false) : (xs.take (k + 1)).findIdx? p = none := by
  rw [List.take_add_one, h, List.findIdx?_append, hf]
  simp [hx]
theorem findIdx_at {α : Type} {xs : List α} {p : α → Bool} {k : Nat} {x : α} (h : xs[k]? = some x) (hf : (xs.take k).findIdx? p = none) (hx : p x = true) : xs.findIdx? p = some k := by
  have hk : k < xs.length := (List.getElem?_eq_some_iff.1 h).1
  have e : xs = xs.take k ++ x :: xs.drop (k + 1) := by
    have h2 : xs[k] = x := (List.getElem?_eq_some_iff.1 h).2
    rw [← h2, ← List.drop_eq_getElem_cons hk, List.take_append_drop]
  rw [e, List.findIdx?_append, hf]
  simp [List.findIdx?_cons, hx]; omega

set_option maxHeartbeats 400000 in
theorem indexRows_any (a : Option Addr) (n c : Nat) (xss : List (List Int)) (g : Nat) (v : Value) (p : List Int → Bool) (w : World) (h : Rows w a n c xss) (hg : Enters g) (hp : Asks g v w p) :
    Calls Tryz.prog 183 #[.slice a n c, .func (.func g) #[] #[v]] w fun e w' => e = .returned (.int .i64 (idxOf (xss.findIdx? p))) ∧ Below w.heap.size w w' := by
  have hb := h.big
  unfold Enters at hg
  go_enter Tryz.func183, Tryz.ntmps183
  go_wp2_with fail
  go_loopg [8] n (fun g' s8 wr => ∃ k : Nat, k + g' = n ∧ s8 = .int .i64 k ∧ Below w.heap.size w wr ∧ (xss.take k).findIdx? p = none)
  case atStart => exact ⟨0, by omega, rfl, Below.refl _ _, rfl⟩
  case round =>
    obtain ⟨k, hk, rfl, hB, hf⟩ := hrel
    by_cases hlt : k < n
    · obtain ⟨xs, hx⟩ := h.get hlt
      obtain ⟨b, o, rfl⟩ := h.addr (by omega)
      obtain ⟨a', n', c', hc, hi⟩ := (h.below hB (Nat.le_refl _)).cell b o rfl k xs hx
      have HP := Lib.hid (hp wr a' n' c' xs hB hi)
      have H := Lib.hid h; clear h hi hp
      have HF := Lib.hid hf; clear hf
      have HX := Lib.hid hx; clear hx
      have HK := Lib.hid hk; clear hk
      have HB := Lib.hid hB; clear hB
      cases hpx : p xs with
      | true =>
        have HQ := Lib.hid hpx; clear hpx
        go_wp2_with fail
        refine HP.out.mono ?_
        rw [HQ.out]
        rintro e w1 ⟨rfl, hb1⟩
        have HB1 := Lib.hid hb1; clear hb1
        go_wp2_with fail
        go_ret
        refine ⟨ret_int ?_, HB.out.trans (HB1.out.mono HB.out.size)⟩
        rw [findIdx_at HX.out HF.out HQ.out]; rfl
      | false =>
        have HQ := Lib.hid hpx; clear hpx
        go_wp2_with fail
        refine HP.out.mono ?_
        rw [HQ.out]
        rintro e w1 ⟨rfl, hb1⟩
        have HB1 := Lib.hid hb1; clear hb1
        go_wp2_with fail
        go_roundg (gk - 1)
        case measure => have := HK.out; omega
        case rel => exact ⟨k + 1, by have := HK.out; omega, by go_num, HB.out.trans (HB1.out.mono HB.out.size), findIdx_on HX.out HF.out HQ.out⟩
    · obtain rfl : k = n := by omega
      have HF := Lib.hid hf; clear hf
      have HB := Lib.hid hB; clear hB
      have H := Lib.hid h; clear h hp
      go_wp2_with fail
      go_ret
      refine ⟨ret_int ?_, HB.out⟩
      have hl := H.out.len
      have hf := HF.out
      rw [List.take_of_length_le (by omega)] at hf
      rw [hf]; rfl

theorem idxOf_ge (o : Option Nat) : decide (0 ≤ idxOf o) = o.isSome := by cases o <;> simp [idxOf]

set_option maxHeartbeats 400000 in
theorem containsRows_any (a : Option Addr) (n c : Nat) (xss : List (List Int)) (g : Nat) (v : Value) (p : List Int → Bool) (w : World) (h : Rows w a n c xss) (hg : Enters g) (hp : Asks g v w p) :
    Calls Tryz.prog 153 #[.slice a n c, .func (.func g) #[] #[v]] w fun e w' => e = .returned (.bool (xss.any p)) ∧ Below w.heap.size w w' := by
  have HH := Lib.hid h; clear h
  have HG := Lib.hid hg; clear hg
  have HP := Lib.hid hp; clear hp
  go_enter Tryz.func153, Tryz.ntmps153
  go_wp2_with fail
  refine (indexRows_any a n c xss g v p w HH.out HG.out HP.out).mono ?_
  rintro e w1 ⟨rfl, hb1⟩
  have HB1 := Lib.hid hb1; clear hb1
  go_wp2_with fail
  go_ret
  refine ⟨ret_bool ?_, HB1.out⟩
  rw [idxOf_ge, ← List.findIdx?_isSome]
end Go.Proofs.YtkddkkcfpnndlaaGreatDoor

namespace Go.Proofs.YtkddkkcfpnndlaaGreatDoor
open Go.RowKit

/-- a number that a gain may not be -/
def badGain (x : Int) : Bool := decide (x < -1000000) || decide (1000000 < x)

theorem badGain_any (x : Int) (w : World) :
    Calls Tryz.prog 164 #[.int .i64 x] w fun e w' => e = .returned (.bool (badGain x)) ∧ w = w' := by
  by_cases h : x < -1000000
  · go_enter Tryz.func164, Tryz.ntmps164
    go_wp2_with fail
    go_ret
    exact ⟨ret_bool (by simp [badGain, h]), rfl⟩
  · go_enter Tryz.func164, Tryz.ntmps164
    go_wp2_with fail
    go_ret
    exact ⟨ret_bool (by simp [badGain]; omega), rfl⟩

theorem enters70 : Enters 162 := fun args w => by
  simp [callFunc, Tryz.func162]
  kernel_rfl

set_option maxHeartbeats 400000 in
theorem indexGain_any (a : Option Addr) (n c : Nat) (xs : List Int) (w : World) (h : Ints w a n c xs) :
    Calls Tryz.prog 191 #[.slice a n c, .func (.func 164) #[] #[]] w fun e w' => e = .returned (.int .i64 (idxOf (xs.findIdx? badGain))) ∧ w = w' := by
  have hb := h.big
  go_enter Tryz.func191, Tryz.ntmps191
  go_wp2_with fail
  go_loopg [8] n (fun g' s8 wr => ∃ k : Nat, k + g' = n ∧ s8 = .int .i64 k ∧ wr = w ∧ (xs.take k).findIdx? badGain = none)
  case atStart => exact ⟨0, by omega, rfl, rfl, rfl⟩
  case round =>
    obtain ⟨k, hk, rfl, rfl, hf⟩ := hrel
    by_cases hlt : k < n
    · obtain ⟨x, hx, _⟩ := h.get hlt
      obtain ⟨b, o, rfl⟩ := h.addr (by omega)
      have hc := h.cell b o rfl k x hx
      have H := Lib.hid h; clear h
      have HF := Lib.hid hf; clear hf
      have HX := Lib.hid hx; clear hx
      have HK := Lib.hid hk; clear hk
      cases hpx : badGain x with
      | true =>
        have HQ := Lib.hid hpx; clear hpx
        go_wp2_with fail
        refine (badGain_any x wr).mono ?_
        rw [HQ.out]
        rintro e w1 ⟨rfl, rfl⟩
        go_wp2_with fail
        go_ret
        refine ⟨ret_int ?_, rfl⟩
        rw [findIdx_at HX.out HF.out HQ.out]; rfl
      | false =>
        have HQ := Lib.hid hpx; clear hpx
        go_wp2_with fail
        refine (badGain_any x wr).mono ?_
        rw [HQ.out]
        rintro e w1 ⟨rfl, rfl⟩
        go_wp2_with fail
        go_roundg (gk - 1)
        case measure => have := HK.out; omega
        case rel => exact ⟨k + 1, by have := HK.out; omega, by go_num, rfl, findIdx_on HX.out HF.out HQ.out⟩
    · obtain rfl : k = n := by omega
      have HF := Lib.hid hf; clear hf
      have H := Lib.hid h; clear h
      go_wp2_with fail
      go_ret
      refine ⟨ret_int ?_, rfl⟩
      have hl := H.out.len
      have hf := HF.out
      rw [List.take_of_length_le (by omega)] at hf
      rw [hf]; rfl

set_option maxHeartbeats 400000 in
theorem containsGain_any (a : Option Addr) (n c : Nat) (xs : List Int) (w : World) (h : Ints w a n c xs) :
    Calls Tryz.prog 163 #[.slice a n c, .func (.func 164) #[] #[]] w fun e w' => e = .returned (.bool (xs.any badGain)) ∧ w = w' := by
  have HH := Lib.hid h; clear h
  go_enter Tryz.func163, Tryz.ntmps163
  go_wp2_with fail
  refine (indexGain_any a n c xs w HH.out).mono ?_
  rintro e w1 ⟨rfl, rfl⟩
  go_wp2_with fail
  go_ret
  refine ⟨ret_bool ?_, rfl⟩
  rw [idxOf_ge, ← List.findIdx?_isSome]

/-- a list of gains that may not be, of so many items -/
def badGains (items : Int) (l : List Int) : Bool := !decide ((l.length : Int) = items) || l.any badGain

set_option maxHeartbeats 400000 in
theorem badGains_any (a : Option Addr) (n c : Nat) (xs : List Int) (items : Int) (B : Nat) (w : World) (h : Ints w a n c xs) (hB : w.cell? ⟨B, 0, none⟩ = some (.int .i64 items)) :
    Calls Tryz.prog 162 #[.slice a n c, .pointer (some ⟨B, 0, none⟩)] w fun e w' => e = .returned (.bool (badGains items xs)) ∧ Below w.heap.size w w' := by
  have hl := h.len
  have H := Lib.hid h; clear h
  by_cases e : (n : Int) = items
  · have e1 : ((n : Int) != items) = false := by simp [e]
    have E := Lib.hid e; clear e
    have HL := Lib.hid hl; clear hl
    go_enter Tryz.func162, Tryz.ntmps162
    go_wp2_with fail
    refine (containsGain_any a n c xs w H.out).mono ?_
    rintro e w1 ⟨rfl, rfl⟩
    go_wp2_with fail
    go_ret
    refine ⟨ret_bool ?_, Below.refl _ _⟩
    rw [badGains, HL.out]; simp [E.out]
  · have e1 : ((n : Int) != items) = true := by simp [e]
    have E := Lib.hid e; clear e
    have HL := Lib.hid hl; clear hl
    go_enter Tryz.func162, Tryz.ntmps162
    go_wp2_with fail
    go_ret
    refine ⟨ret_bool ?_, Below.refl _ _⟩
    rw [badGains, HL.out]; simp [E.out]

/-- may gains be? -/
def wcheck (gains : List (List Int)) (items : Int) : Bool := decide (1 ≤ items) && decide (items ≤ 8) && decide (gains.length ≤ 8) && !(gains.any (badGains items))

set_option maxHeartbeats 400000 in
theorem wcheck_any (a : Option Addr) (n c : Nat) (gains : List (List Int)) (items : Int) (w : World) (h : Rows w a n c gains) :
    Calls Tryz.prog 122 #[.slice a n c, .int .i64 items] w fun e w' => e = .returned (.bool (wcheck gains items)) ∧ Below w.heap.size w w' := by
  have hl := h.len
  have hbig := h.big
  have H := Lib.hid h; clear h
  have HL := Lib.hid hl; clear hl
  go_enter Tryz.func122, Tryz.ntmps122
  by_cases h1 : 1 ≤ items
  · by_cases h2 : items ≤ 8
    · by_cases h3 : n ≤ 8
      · go_wp2_with fail
        refine (containsRows_any a n c gains 162 (.pointer (some ⟨w.heap.size, 0, none⟩)) (badGains items) _ (H.out.below (w' := w.alloc (.cells #[.int .i64 items] 3)) ((Below.refl _ _).alloc (Nat.le_refl _) _) (Nat.le_refl _)) enters70 ?_).mono ?_
        · intro w' a n c xs hb3 h3
          exact badGains_any a n c xs items w.heap.size w' h3 (by rw [hb3.cell (p := ⟨w.heap.size, 0, none⟩) (by simp)]; simp [go_sem])
        · rintro e w3 ⟨rfl, hb3⟩
          have HB3 := Lib.hid hb3; clear hb3
          go_wp2_with fail
          go_ret
          refine ⟨ret_bool ?_, ((Below.refl _ _).alloc (Nat.le_refl _) _).trans (HB3.out.mono (by simp))⟩
          rw [wcheck, HL.out]; simp [h1, h2, h3]
      · go_wp2_with fail
        go_ret
        exact ⟨ret_bool (by rw [wcheck, HL.out]; simp [h3]), (Below.refl _ _).alloc (Nat.le_refl _) _⟩
    · go_wp2_with fail
      go_ret
      exact ⟨ret_bool (by rw [wcheck]; simp; intros; omega), (Below.refl _ _).alloc (Nat.le_refl _) _⟩
  · go_wp2_with fail
    go_ret
    exact ⟨ret_bool (by rw [wcheck]; simp; intros; omega), (Below.refl _ _).alloc (Nat.le_refl _) _⟩

def mostOf (x : Int) (l : List Int) : Int := l.foldl max x

set_option maxHeartbeats 400000 in
theorem most_any (x : Int) (a : Option Addr) (n c : Nat) (xs : List Int) (w : World) (h : Ints w a n c xs) :
    Calls Tryz.prog 165 #[.int .i64 x, .slice a n c] w fun e w' => e = .returned (.int .i64 (mostOf x xs)) ∧ w = w' := by
  have hb := h.big
  go_enter Tryz.func165, Tryz.ntmps165
  go_wp2_with fail
  go_loopg [0, 9] n (fun g' s0 s9 wr => ∃ k : Nat, k + g' = n ∧ s9 = .int .i64 k ∧ s0 = .int .i64 (mostOf x (xs.take k)) ∧ wr = w)
  case atStart => exact ⟨0, by omega, rfl, rfl, rfl⟩
  case round =>
    obtain ⟨k, hk, rfl, rfl, rfl⟩ := hrel
    by_cases hlt : k < n
    · obtain ⟨y, hx, _⟩ := h.get hlt
      obtain ⟨b, o, rfl⟩ := h.addr (by omega)
      have hc := h.cell b o rfl k y hx
      have e1 : mostOf x (xs.take (k + 1)) = max (mostOf x (xs.take k)) y := by
        rw [List.take_add_one, hx]; simp [mostOf]
      have E := Lib.hid e1; clear e1
      have H := Lib.hid h; clear h
      have HX := Lib.hid hx; clear hx
      have HK := Lib.hid hk; clear hk
      generalize hm : mostOf x (xs.take k) = z at *
      have HM := Lib.hid hm; clear hm
      by_cases hz : z < y
      · go_wp2_with fail
        go_roundg (gk - 1)
        case measure => have := HK.out; omega
        case rel => exact ⟨k + 1, by have := HK.out; omega, by go_num, by rw [E.out]; congr 1; omega, rfl⟩
      · go_wp2_with fail
        go_roundg (gk - 1)
        case measure => have := HK.out; omega
        case rel => exact ⟨k + 1, by have := HK.out; omega, by go_num, by rw [E.out]; congr 1; omega, rfl⟩
    · obtain rfl : k = n := by omega
      have hl := h.len
      have e1 : mostOf x (xs.take k) = mostOf x xs := by rw [List.take_of_length_le (by omega)]
      rw [e1]; clear e1
      have HL := Lib.hid hl; clear hl
      have H := Lib.hid h; clear h
      go_wp2_with fail
      go_ret
      exact ⟨rfl, rfl⟩
end Go.Proofs.YtkddkkcfpnndlaaGreatDoor

namespace Go.Proofs.YtkddkkcfpnndlaaGreatDoor
open Go.RowKit

/-! ### slices.Index, Contains -/
set_option maxHeartbeats 400000 in
theorem index_any (a : Option Addr) (n c : Nat) (xs : List Int) (x : Int) (w : World) (h : Ints w a n c xs) :
    Calls Tryz.prog 184 #[.slice a n c, .int .i64 x] w fun e w' => e = .returned (.int .i64 (idxOf (xs.findIdx? fun y => x == y))) ∧ w = w' := by
  have hb := h.big
  go_enter Tryz.func184, Tryz.ntmps184
  go_wp2_with fail
  go_loopg [8] n (fun g' s8 wr => ∃ k : Nat, k + g' = n ∧ s8 = .int .i64 k ∧ wr = w ∧ (xs.take k).findIdx? (fun y => x == y) = none)
  case atStart => exact ⟨0, by omega, rfl, rfl, rfl⟩
  case round =>
    obtain ⟨k, hk, rfl, rfl, hf⟩ := hrel
    by_cases hlt : k < n
    · obtain ⟨y, hx, _⟩ := h.get hlt
      obtain ⟨b, o, rfl⟩ := h.addr (by omega)
      have hc := h.cell b o rfl k y hx
      have H := Lib.hid h; clear h
      have HF := Lib.hid hf; clear hf
      have HX := Lib.hid hx; clear hx
      have HK := Lib.hid hk; clear hk
      cases hpx : (x == y) with
      | true =>
        go_wp2_with fail
        go_ret
        refine ⟨ret_int ?_, rfl⟩
        rw [findIdx_at (p := fun y => x == y) HX.out HF.out hpx]; rfl
      | false =>
        go_wp2_with fail
        go_roundg (gk - 1)
        case measure => have := HK.out; omega
        case rel => exact ⟨k + 1, by have := HK.out; omega, by go_num, rfl, findIdx_on (p := fun y => x == y) HX.out HF.out hpx⟩
    · obtain rfl : k = n := by omega
      have HF := Lib.hid hf; clear hf
      have H := Lib.hid h; clear h
      go_wp2_with fail
      go_ret
      refine ⟨ret_int ?_, rfl⟩
      have hl := H.out.len
      have hf := HF.out
      rw [List.take_of_length_le (by omega)] at hf
      rw [hf]; rfl

theorem contains_any (a : Option Addr) (n c : Nat) (xs : List Int) (x : Int) (w : World) (h : Ints w a n c xs) :
    Calls Tryz.prog 158 #[.slice a n c, .int .i64 x] w fun e w' => e = .returned (.bool (xs.contains x)) ∧ w = w' := by
  have HH := Lib.hid h; clear h
  go_enter Tryz.func158, Tryz.ntmps158
  go_wp2_with fail
  refine (index_any a n c xs x w HH.out).mono ?_
  rintro e w1 ⟨rfl, rfl⟩
  go_wp2_with fail
  go_ret
  refine ⟨ret_bool ?_, rfl⟩
  rw [idxOf_ge, List.findIdx?_isSome, List.contains_eq_any_beq]

/-! ### rises -/
/-- does a list rise from above some number on, below another? -/
def risesFrom (many : Int) : Int → List Int → Bool
  | _, [] => true
  | last, n :: l => decide (last < n ∧ n < many) && risesFrom many n l

set_option maxHeartbeats 400000 in
theorem rises_any (a : Option Addr) (n c : Nat) (xs : List Int) (many : Int) (w : World) (h : Ints w a n c xs) :
    Calls Tryz.prog 195 #[.slice a n c, .int .i64 many] w fun e w' => e = .returned (.bool (risesFrom many (-1) xs)) ∧ w = w' := by
  have hb := h.big
  go_enter Tryz.func195, Tryz.ntmps195
  go_wp2_with fail
  go_loopg [5, 10] n (fun g' s5 s10 wr => ∃ k : Nat, k + g' = n ∧ s10 = .int .i64 k ∧ wr = w ∧ ∃ last : Int, s5 = .int .i64 last ∧ risesFrom many (-1) xs = risesFrom many last (xs.drop k))
  case atStart => exact ⟨0, by omega, rfl, rfl, -1, rfl, rfl⟩
  case round =>
    obtain ⟨k, hk, rfl, rfl, last, rfl, hr⟩ := hrel
    by_cases hlt : k < n
    · obtain ⟨x, hx, _⟩ := h.get hlt
      obtain ⟨b, o, rfl⟩ := h.addr (by omega)
      have hc := h.cell b o rfl k x hx
      have hd : xs.drop k = x :: xs.drop (k + 1) := by
        have h2 : xs[k]'(by have := h.len; omega) = x := by
          have := (List.getElem?_eq_some_iff.1 hx).2; exact this
        rw [← h2]; exact List.drop_eq_getElem_cons _
      rw [hd] at hr
      have HR := Lib.hid hr; clear hr
      have HD := Lib.hid hd; clear hd
      have H := Lib.hid h; clear h
      have HX := Lib.hid hx; clear hx
      have HK := Lib.hid hk; clear hk
      by_cases h1 : x ≤ last
      · go_wp2_with fail
        go_ret
        exact ⟨ret_bool (by rw [HR.out]; simp [risesFrom]; omega), rfl⟩
      · by_cases h2 : many ≤ x
        · go_wp2_with fail
          go_ret
          exact ⟨ret_bool (by rw [HR.out]; simp [risesFrom]; omega), rfl⟩
        · go_wp2_with fail
          go_roundg (gk - 1)
          case measure => have := HK.out; omega
          case rel => exact ⟨k + 1, by have := HK.out; omega, by go_num, rfl, x, rfl, by rw [HR.out]; simp [risesFrom]; omega⟩
    · obtain rfl : k = n := by omega
      have hd : xs.drop k = [] := List.drop_eq_nil_of_le (by have := h.len; omega)
      rw [hd] at hr
      have HR := Lib.hid hr; clear hr hd
      have H := Lib.hid h; clear h
      go_wp2_with fail
      go_ret
      exact ⟨ret_bool (by rw [HR.out]; rfl), rfl⟩

/-! ### Check -/
/-- may that be who may have which items, of so many? -/
def gcheck (g : List (List Int)) (items : Int) : Bool := decide (0 ≤ items) && decide (items ≤ 8) && decide (g.length ≤ 8) && !(g.any fun l => !risesFrom items (-1) l)

theorem notRises_any (a : Option Addr) (n c : Nat) (xs : List Int) (items : Int) (B : Nat) (w : World) (h : Ints w a n c xs) (hB : w.cell? ⟨B, 0, none⟩ = some (.int .i64 items)) :
    Calls Tryz.prog 194 #[.slice a n c, .pointer (some ⟨B, 0, none⟩)] w fun e w' => e = .returned (.bool (!risesFrom items (-1) xs)) ∧ Below w.heap.size w w' := by
  have H := Lib.hid h; clear h
  go_enter Tryz.func194, Tryz.ntmps194
  go_wp2_with fail
  refine (rises_any a n c xs items w H.out).mono ?_
  rintro e w1 ⟨rfl, rfl⟩
  go_wp2_with fail
  go_ret
  exact ⟨rfl, Below.refl _ _⟩

theorem entersRises : Enters 194 := fun args w => by
  simp [callFunc, Tryz.func194]
  kernel_rfl

set_option maxHeartbeats 400000 in
theorem gcheck_any (a : Option Addr) (n c : Nat) (g : List (List Int)) (items : Int) (w : World) (h : Rows w a n c g) :
    Calls Tryz.prog 169 #[.slice a n c, .int .i64 items] w fun e w' => e = .returned (.bool (gcheck g items)) ∧ Below w.heap.size w w' := by
  have hl := h.len
  have hbig := h.big
  have H := Lib.hid h; clear h
  have HL := Lib.hid hl; clear hl
  go_enter Tryz.func169, Tryz.ntmps169
  have hal : Below w.heap.size w (w.alloc (.cells #[.int .i64 items] 3)) := (Below.refl _ _).alloc (Nat.le_refl _) _
  have HAL := Lib.hid hal; clear hal
  by_cases h1 : 0 ≤ items
  · by_cases h2 : items ≤ 8
    · by_cases h3 : n ≤ 8
      · go_wp2_with fail
        refine (containsRows_any a n c g 194 (.pointer (some ⟨w.heap.size, 0, none⟩)) (fun l => !risesFrom items (-1) l) _ (H.out.below HAL.out (Nat.le_refl _)) entersRises ?_).mono ?_
        · intro w' a n c xs hb3 h3
          exact notRises_any a n c xs items w.heap.size w' h3 (by rw [hb3.cell (p := ⟨w.heap.size, 0, none⟩) (by simp)]; simp [go_sem])
        · rintro e w3 ⟨rfl, hb3⟩
          have HB3 := Lib.hid hb3; clear hb3
          go_wp2_with fail
          go_ret
          refine ⟨ret_bool ?_, HAL.out.trans (HB3.out.mono (by simp))⟩
          have e : g.length ≤ 8 := by rw [HL.out]; exact h3
          simp [gcheck, h1, h2, e]
      · have hd : decide (n ≤ 8) = false := by simp; omega
        go_wp2_with fail
        go_ret
        refine ⟨ret_bool ?_, HAL.out⟩
        have e : ¬ g.length ≤ 8 := by rw [HL.out]; exact h3
        simp [gcheck, e]
    · have hd : decide (items ≤ 8) = false := by simp; omega
      go_wp2_with fail
      go_ret
      refine ⟨ret_bool ?_, HAL.out⟩
      simp only [gcheck, hd, Bool.and_false, Bool.false_and]
  · have hd : decide (0 ≤ items) = false := by simp; omega
    go_wp2_with fail
    go_ret
    refine ⟨ret_bool ?_, HAL.out⟩
    simp only [gcheck, hd, Bool.false_and]

/-! ### Many -/
def manyOf (has : List Int) : Int := ((has.filter fun k => k != -1).length : Int)
theorem manyOf_snoc {xs : List Int} {k : Nat} {x : Int} (h : xs[k]? = some x) : manyOf (xs.take (k + 1)) = manyOf (xs.take k) + if x = -1 then 0 else 1 := by
  unfold manyOf
  rw [List.take_add_one, h, List.filter_append]
  by_cases e : x = -1 <;> simp [e]
theorem manyOf_le (xs : List Int) : 0 ≤ manyOf xs ∧ manyOf xs ≤ xs.length := by
  unfold manyOf
  have := List.length_filter_le (fun k : Int => k != -1) xs
  omega

set_option maxHeartbeats 400000 in
theorem many_any (a : Option Addr) (n c : Nat) (xs : List Int) (w : World) (h : Ints w a n c xs) :
    Calls Tryz.prog 227 #[.slice a n c] w fun e w' => e = .returned (.int .i64 (manyOf xs)) ∧ w = w' := by
  have hb := h.big
  go_enter Tryz.func227, Tryz.ntmps227
  go_wp2_with fail
  go_loopg [2, 7] n (fun g' s2 s7 wr => ∃ k : Nat, k + g' = n ∧ s7 = .int .i64 k ∧ wr = w ∧ s2 = .int .i64 (manyOf (xs.take k)))
  case atStart => exact ⟨0, by omega, rfl, rfl, rfl⟩
  case round =>
    obtain ⟨k, hk, rfl, rfl, rfl⟩ := hrel
    by_cases hlt : k < n
    · obtain ⟨x, hx, _⟩ := h.get hlt
      obtain ⟨b, o, rfl⟩ := h.addr (by omega)
      have hc := h.cell b o rfl k x hx
      have hs := manyOf_snoc hx
      have hm := manyOf_le (xs.take k)
      have hml : (xs.take k).length ≤ k := by simp; omega
      obtain ⟨m, hme⟩ : ∃ m, m = manyOf (xs.take k) := ⟨_, rfl⟩
      rw [← hme] at hs hm ⊢
      have HS := Lib.hid hs; clear hs
      have HM := Lib.hid hme; clear hme
      obtain ⟨hm1, hm2⟩ := hm
      have hm3 : m ≤ 4611686018427387904 := by omega
      clear hm2 hml
      have H := Lib.hid h; clear h
      have HX := Lib.hid hx; clear hx
      have HK := Lib.hid hk; clear hk
      by_cases e : x = -1
      · have e1 : (x != -1) = false := by simp [e]
        have E := Lib.hid e; clear e
        go_wp2_with fail
        go_roundg (gk - 1)
        case measure => have := HK.out; omega
        case rel => exact ⟨k + 1, by have := HK.out; omega, by go_num, rfl, by rw [HS.out, if_pos E.out]; simp⟩
      · have e1 : (x != -1) = true := by simp [e]
        have E := Lib.hid e; clear e
        go_wp2_with fail
        go_roundg (gk - 1)
        case measure => have := HK.out; omega
        case rel => exact ⟨k + 1, by have := HK.out; omega, by go_num, rfl, by rw [HS.out, if_neg E.out]⟩
    · obtain rfl : k = n := by omega
      rw [List.take_of_length_le (by have := h.len; omega)]
      have H := Lib.hid h; clear h
      go_wp2_with fail
      go_ret
      exact ⟨rfl, rfl⟩
end Go.Proofs.YtkddkkcfpnndlaaGreatDoor
