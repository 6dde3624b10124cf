/- Walks: package markets: the order. Walks: slices.IndexFunc, ContainsFunc over lists of lists; markets.Check. Walks: package graphs: rises, Check, Fits, Many; slices.Index, Contains at ints. -/
import Derived.Test.YtkddkkcfpnndlaaDoorFo01
import Derived.Test.YtkddkkcfpnndlaaDoorFo02
namespace Go.Proofs.YtkddkkcfpnndlaaDoor
open Go.RowKit

def onceTo (k : Nat) : List Int := (List.range 8).map fun j => if j < k then 1 else 0
def timesOf (l : List Int) : List Int := (List.range 8).map fun (j : Nat) => (l.count (j : Int) : Int)
theorem onceTo_get {m k : Nat} (h : k < 8) : (onceTo m)[k]? = some (if k < m then 1 else 0) := by simp [onceTo, h]
theorem onceTo_set {k : Nat} (h : k < 8) : (onceTo k).set k 1 = onceTo (k + 1) := by
  have : ∀ k, k < 8 → (onceTo k).set k 1 = onceTo (k + 1) := by decide
  exact this k h
theorem timesOf_get (l : List Int) {k : Nat} (h : k < 8) : (timesOf l)[k]? = some (l.count (k : Int) : Int) := by simp [timesOf, h]
theorem timesOf_set (l : List Int) (x : Int) {k : Nat} (h : k < 8) (hx : x = k) : (timesOf l).set k ((l.count (k : Int) : Int) + 1) = timesOf (l ++ [x]) := by
  subst hx
  apply List.ext_getElem?
  intro j
  rw [List.getElem?_set]
  by_cases hj : j < 8
  · rw [timesOf_get _ hj, timesOf_get _ hj]
    by_cases e : k = j
    · subst e; simp [timesOf, hj, List.count_append]
    · have : ¬ ((k : Int) = (j : Int)) := by omega
      simp [e, List.count_append, this]
  · have : k ≠ j := by omega
    rw [if_neg this, List.getElem?_eq_none (by simp [timesOf]; omega), List.getElem?_eq_none (by simp [timesOf]; omega)]

/-- an order has each of so many, once -/
def orderOk (l : List Int) (m : Nat) : Bool := l.all (fun x => decide (0 ≤ x ∧ x < m)) && (timesOf l == onceTo m)

theorem orderOk_no {xs : List Int} {m k : Nat} {x : Int} (h : xs[k]? = some x) (hx : x < 0 ∨ (m : Int) ≤ x) : orderOk xs m = false := by
  have : xs.all (fun x => decide (0 ≤ x ∧ x < m)) = false := by
    rw [List.all_eq_false]
    exact ⟨x, List.mem_of_getElem? h, by simp; omega⟩
  unfold orderOk; rw [this]; rfl

set_option maxHeartbeats 400000 in
theorem ordered_any (a : Option Addr) (n c : Nat) (xs : List Int) (m : Nat) (w : World) (h : Ints w a n c xs) (hm : m ≤ 8) :
    Calls Tryd.prog 81 #[.slice a n c, .int .i64 m] w fun e w' => e = .returned (.bool (orderOk xs m)) ∧ Below w.heap.size w w' := by
  have hb := h.big
  go_enter Tryd.func81, Tryd.ntmps81
  go_wp2_with fail
  go_loopg [11] m (fun g s11 wr => ∃ k : Nat, k + g = m ∧ s11 = .int .i64 k ∧ Row wr w.heap.size 127 (timesOf []) ∧ Row wr (w.heap.size + 1) 127 (onceTo k) ∧ Below w.heap.size w wr)
  case atStart =>
    exact ⟨0, by omega, rfl, (Row.new _ _ (timesOf [])).alloc _, Row.new' _ _ (onceTo 0) (by simp), ((Below.refl _ _).alloc (Nat.le_refl _) _).alloc (by simp) _⟩
  case round =>
    obtain ⟨k, hk, rfl, ht, ho, hB⟩ := hrel
    by_cases hlt : k < m
    · have hc := ho.cell (onceTo_get (m := k) (k := k) (by omega))
      have hf := ho.frozen k
      have HK := Lib.hid hk; clear hk
      have HT := Lib.hid ht; clear ht
      have HO := Lib.hid ho; clear ho
      have HB := Lib.hid hB; clear hB
      have H := Lib.hid h; clear h
      go_wp2_with fail
      go_roundg (gk - 1)
      case measure => have := HK.out; omega
      case rel => exact ⟨k + 1, by have := HK.out; omega, by go_num, HT.out.other (by simp) _, by rw [← onceTo_set (by omega)]; exact HO.out.set k 1, HB.out.setCell (by simp) _⟩
    · obtain rfl : k = m := by omega
      have HT := Lib.hid ht; clear ht
      have HO := Lib.hid ho; clear ho
      have HB := Lib.hid hB; clear hB
      go_wp2_with fail
      obtain ⟨w1, rfl⟩ : ∃ w1 : World, w1 = wr := ⟨_, rfl⟩
      go_loopg [19] n (fun g s19 wr => ∃ j : Nat, j + g = n ∧ s19 = .int .i64 j ∧ Row wr w.heap.size 127 (timesOf (xs.take j)) ∧ Row wr (w.heap.size + 1) 127 (onceTo k) ∧ Below w.heap.size w wr ∧ (xs.take j).all (fun x => decide (0 ≤ x ∧ x < k)) = true)
      case atStart => exact ⟨0, by omega, rfl, HT.out, HO.out, HB.out, rfl⟩
      case round =>
        obtain ⟨j, hj, rfl, ht, ho, hB, hall⟩ := hrel
        by_cases hlt : j < n
        · obtain ⟨x, hx, _⟩ := h.get hlt
          obtain ⟨b, o, rfl⟩ := h.addr (by omega)
          have h1 := h.below hB (Nat.le_refl _)
          have hc := h1.cell b o rfl j x hx
          have HX := Lib.hid hx; clear hx
          have HJ := Lib.hid hj; clear hj
          have HA := Lib.hid hall; clear hall
          have HB := Lib.hid hB; clear hB
          have H := Lib.hid h; clear h h1
          by_cases hx0 : x < 0
          · have HT := Lib.hid ht; clear ht
            have HO := Lib.hid ho; clear ho
            go_wp2_with fail
            go_ret
            exact ⟨ret_bool (by rw [orderOk_no HX.out (.inl hx0)]), HB.out⟩
          · by_cases hx1 : (k : Int) ≤ x
            · have HT := Lib.hid ht; clear ht
              have HO := Lib.hid ho; clear ho
              go_wp2_with fail
              go_ret
              exact ⟨ret_bool (by rw [orderOk_no HX.out (.inr hx1)]), HB.out⟩
            · obtain ⟨q, rfl⟩ : ∃ q : Nat, x = q := ⟨x.toNat, by omega⟩
              have hq : q < 8 := by omega
              have hc2 := ht.cell (timesOf_get (xs.take j) hq)
              have hf := ht.frozen q
              have hcl : (xs.take j).count (q : Int) ≤ j := Nat.le_trans List.count_le_length (by simp; omega)
              have e1 : IntKind.i64.wrap (((xs.take j).count (q : Int) : Int) + 1) = ((xs.take j).count (q : Int) : Int) + 1 := IntWalk.i64_in _ (by omega)
              generalize hcc : (xs.take j).count (q : Int) = cc at hc2 e1 hcl
              have HC := Lib.hid hcc; clear hcc
              have HT := Lib.hid ht; clear ht
              have HO := Lib.hid ho; clear ho
              go_wp2_with fail
              go_roundg (gk - 1)
              case measure => have := HJ.out; omega
              case rel =>
                refine ⟨j + 1, by have := HJ.out; omega, by go_num, ?_, HO.out.other (by simp) _, HB.out.setCell (by simp) _, ?_⟩
                · have := HT.out.set q ((cc : Int) + 1)
                  rw [← HC.out, timesOf_set _ _ hq rfl] at this
                  rw [← HC.out, List.take_add_one, HX.out]; exact this
                · rw [List.take_add_one, HX.out, List.all_append, HA.out]; simp; omega
        · obtain rfl : j = n := by omega
          have HA := Lib.hid hall; clear hall
          have HB := Lib.hid hB; clear hB
          have hz1 : (iarr (timesOf (xs.take j))).size = 8 := rfl
          have hz2 : (iarr (onceTo k)).size = 8 := rfl
          have hq : ∀ w, (binOp .eql 127 (.agg (iarr (timesOf (xs.take j)))) (.agg (iarr (onceTo k)))).run Tryd.prog w = .ok (.bool (timesOf (xs.take j) == onceTo k)) w :=
            fun w => run_eql_iarr w 127 3 _ _ 8 Tryd.underlying127 Tryd.underlying3 (by kernel_rfl) rfl rfl
          have HT := Lib.hid ht; clear ht
          have HO := Lib.hid ho; clear ho
          have H := Lib.hid h; clear h
          go_wp2_with (first | (refine wpList_load_row rfl 127 _ rfl w.heap.size rfl 127 (iarr (timesOf (xs.take j))) (0, 0) _ HT.out Tryd.underlying127 rfl (by kernel_rfl) ?_) | (refine wpList_load_row rfl 127 _ rfl (w.heap.size + 1) rfl 127 (iarr (onceTo k)) (0, 0) _ HO.out Tryd.underlying127 rfl (by kernel_rfl) ?_))
          go_ret
          refine ⟨ret_bool ?_, HB.out⟩
          have ha := HA.out
          have hl := H.out.len
          rw [List.take_of_length_le (by omega)] at ha ⊢
          unfold orderOk
          rw [ha]; rfl
end Go.Proofs.YtkddkkcfpnndlaaDoor

namespace Go.Proofs.YtkddkkcfpnndlaaDoor
open Go.RowKit

def idxOf (o : Option Nat) : Int := match o with | some k => k | none => -1

/-- what a function value is asked: of any list, behind whatever it makes -/
def Enters (g : Nat) : Prop := ∀ (args : Array Value) (w : World), (callFunc g args).run Tryd.prog w = .ok (.enter g args) w
def Asks (g : Nat) (v : Value) (w : World) (p : List Int → Bool) : Prop :=
  ∀ (w' : World) (a : Option Addr) (n c : Nat) (xs : List Int), Below w.heap.size w w' → Ints w' a n c xs →
    Calls Tryd.prog g #[.slice a n c, v] w' fun e w'' => e = .returned (.bool (p xs)) ∧ Below w'.heap.size w' w''

theorem findIdx_on {α : Type} {xs : List α} {p : α → Bool} {k : Nat} {x : α} (h : xs[k]? = some x) (hf : (xs.take k).findIdx? p = none) (hx : p x = false) : (xs.take (k + 1)).findIdx? p = none := by
  rw [List.take_add_one, h, List.findIdx?_append, hf]
  simp [hx]
theorem findIdx_at {α : Type} {xs : List α} {p : α → Bool} {k : Nat} {x : α} (h : xs[k]? = some x) (hf : (xs.take k).findIdx? p = none) (hx : p x = true) : xs.findIdx? p = some k := by
  have hk : k < xs.length := (List.getElem?_eq_some_iff.1 h).1
  have e : xs = xs.take k ++ x :: xs.drop (k + 1) := by
    have h2 : xs[k] = x := (List.getElem?_eq_some_iff.1 h).2
    rw [← h2, ← List.drop_eq_getElem_cons hk, List.take_append_drop]
  rw [e, List.findIdx?_append, hf]
  simp [List.findIdx?_cons, hx]; omega

set_option maxHeartbeats 400000 in
theorem indexRows_any (a : Option Addr) (n c : Nat) (xss : List (List Int)) (g : Nat) (v : Value) (p : List Int → Bool) (w : World) (h : Rows w a n c xss) (hg : Enters g) (hp : Asks g v w p) :
    Calls Tryd.prog 87 #[.slice a n c, .func (.func g) #[] #[v]] w fun e w' => e = .returned (.int .i64 (idxOf (xss.findIdx? p))) ∧ Below w.heap.size w w' := by
  have hb := h.big
  unfold Enters at hg
  go_enter Tryd.func87, Tryd.ntmps87
  go_wp2_with fail
  go_loopg [8] n (fun g' s8 wr => ∃ k : Nat, k + g' = n ∧ s8 = .int .i64 k ∧ Below w.heap.size w wr ∧ (xss.take k).findIdx? p = none)
  case atStart => exact ⟨0, by omega, rfl, Below.refl _ _, rfl⟩
  case round =>
    obtain ⟨k, hk, rfl, hB, hf⟩ := hrel
    by_cases hlt : k < n
    · obtain ⟨xs, hx⟩ := h.get hlt
      obtain ⟨b, o, rfl⟩ := h.addr (by omega)
      obtain ⟨a', n', c', hc, hi⟩ := (h.below hB (Nat.le_refl _)).cell b o rfl k xs hx
      have HP := Lib.hid (hp wr a' n' c' xs hB hi)
      have H := Lib.hid h; clear h hi hp
      have HF := Lib.hid hf; clear hf
      have HX := Lib.hid hx; clear hx
      have HK := Lib.hid hk; clear hk
      have HB := Lib.hid hB; clear hB
      cases hpx : p xs with
      | true =>
        have HQ := Lib.hid hpx; clear hpx
        go_wp2_with fail
        refine HP.out.mono ?_
        rw [HQ.out]
        rintro e w1 ⟨rfl, hb1⟩
        have HB1 := Lib.hid hb1; clear hb1
        go_wp2_with fail
        go_ret
        refine ⟨ret_int ?_, HB.out.trans (HB1.out.mono HB.out.size)⟩
        rw [findIdx_at HX.out HF.out HQ.out]; rfl
      | false =>
        have HQ := Lib.hid hpx; clear hpx
        go_wp2_with fail
        refine HP.out.mono ?_
        rw [HQ.out]
        rintro e w1 ⟨rfl, hb1⟩
        have HB1 := Lib.hid hb1; clear hb1
        go_wp2_with fail
        go_roundg (gk - 1)
        case measure => have := HK.out; omega
        case rel => exact ⟨k + 1, by have := HK.out; omega, by go_num, HB.out.trans (HB1.out.mono HB.out.size), findIdx_on HX.out HF.out HQ.out⟩
    · obtain rfl : k = n := by omega
      have HF := Lib.hid hf; clear hf
      have HB := Lib.hid hB; clear hB
      have H := Lib.hid h; clear h hp
      go_wp2_with fail
      go_ret
      refine ⟨ret_int ?_, HB.out⟩
      have hl := H.out.len
      have hf := HF.out
      rw [List.take_of_length_le (by omega)] at hf
      rw [hf]; rfl

theorem idxOf_ge (o : Option Nat) : decide (0 ≤ idxOf o) = o.isSome := by cases o <;> simp [idxOf]

set_option maxHeartbeats 400000 in
theorem containsRows_any (a : Option Addr) (n c : Nat) (xss : List (List Int)) (g : Nat) (v : Value) (p : List Int → Bool) (w : World) (h : Rows w a n c xss) (hg : Enters g) (hp : Asks g v w p) :
    Calls Tryd.prog 82 #[.slice a n c, .func (.func g) #[] #[v]] w fun e w' => e = .returned (.bool (xss.any p)) ∧ Below w.heap.size w w' := by
  have HH := Lib.hid h; clear h
  have HG := Lib.hid hg; clear hg
  have HP := Lib.hid hp; clear hp
  go_enter Tryd.func82, Tryd.ntmps82
  go_wp2_with fail
  refine (indexRows_any a n c xss g v p w HH.out HG.out HP.out).mono ?_
  rintro e w1 ⟨rfl, hb1⟩
  have HB1 := Lib.hid hb1; clear hb1
  go_wp2_with fail
  go_ret
  refine ⟨ret_bool ?_, HB1.out⟩
  rw [idxOf_ge, ← List.findIdx?_isSome]
end Go.Proofs.YtkddkkcfpnndlaaDoor

namespace Go.Proofs.YtkddkkcfpnndlaaDoor
open Go.RowKit

/-! ### slices.Index, Contains -/
/-! ### rises -/
/-- does a list rise from above some number on, below another? -/
def risesFrom (many : Int) : Int → List Int → Bool
  | _, [] => true
  | last, n :: l => decide (last < n ∧ n < many) && risesFrom many n l

/-! ### Check -/
/-- may that be who may have which items, of so many? -/
def gcheck (g : List (List Int)) (items : Int) : Bool := decide (0 ≤ items) && decide (items ≤ 8) && decide (g.length ≤ 8) && !(g.any fun l => !risesFrom items (-1) l)

/-! ### Many -/
end Go.Proofs.YtkddkkcfpnndlaaDoor
