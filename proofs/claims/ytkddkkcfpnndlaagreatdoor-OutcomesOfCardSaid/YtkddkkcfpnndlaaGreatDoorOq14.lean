/- Walks: the reference's graphs: is it in a list? does a list rise? may a graph be? -/
import Derived.Test.YtkddkkcfpnndlaaGreatDoorOq13
import Derived.Test.YtkddkkcfpnndlaaGreatDoorOq11
import Derived.BigRegion
namespace Go.Proofs.YtkddkkcfpnndlaaGreatDoor
open Go.RowKit

set_option maxHeartbeats 1000000 in
theorem has06_any (a : Option Addr) (n c : Nat) (xs : List Int) (k : Int) (w : World) (h : Ints w a n c xs) :
   Calls Tryz.prog 99 #[.slice a n c, .int .i64 k] w fun e w' => e = .returned (.bool (xs.contains k)) ∧ w = w' := by
 have hb := h.big
 have HH := Lib.hid h; clear h
 go_enter Tryz.func99, Tryz.ntmps99
 go_wp2_with fail
 go_loopg [5] n (fun g s5 wr => ∃ j : Nat, j + g = n ∧ s5 = .int .i64 j ∧ (∀ x, x ∈ xs.take j → x ≠ k) ∧ wr = w)
 case atStart => exact ⟨0, by omega, rfl, fun x h => by simp at h, rfl⟩
 case round =>
   obtain ⟨j, hj, rfl, ht, rfl⟩ := hrel
   have HJ := Lib.hid hj; clear hj
   have HT := Lib.hid ht; clear ht
   by_cases hlt : j < n
   · obtain ⟨x, hx, _⟩ := HH.out.get hlt
     obtain ⟨b, o, rfl⟩ := HH.out.addr (by omega)
     have hc := HH.out.cell b o rfl j x hx
     have HX := Lib.hid hx; clear hx
     have i1 : (j : Int) < (n : Int) := by omega
     by_cases e : x = k
     · have e1 : (x == k) = true := by simpa using e
       have HE := Lib.hid e; clear e
       go_wp2_with fail
       go_ret
       exact ⟨ret_bool (by rw [List.contains_eq_mem, decide_eq_true]; exact HE.out ▸ List.mem_of_getElem? HX.out), rfl⟩
     · have e1 : (x == k) = false := by simpa using e
       have HE := Lib.hid e; clear e
       go_wp2_with fail
       go_roundg (gk - 1)
       case measure => have := HJ.out; omega
       case rel =>
         refine ⟨j + 1, by have := HJ.out; omega, by go_num, fun y hy => ?_, rfl⟩
         rw [List.take_add_one, HX.out] at hy
         simp only [Option.toList_some, List.mem_append, List.mem_singleton] at hy
         rcases hy with hy | rfl
         · exact HT.out y hy
         · exact HE.out
   · obtain rfl : j = n := by have := HJ.out; omega
     have hl := HH.out.len
     have HL := Lib.hid hl; clear hl
     go_wp2_with fail
     go_ret
     refine ⟨ret_bool ?_, rfl⟩
     have ht := HT.out
     rw [List.take_of_length_le (by have := HL.out; omega)] at ht
     rw [List.contains_eq_mem, decide_eq_false]
     intro hm
     exact ht k hm rfl

def RisesTo (many : Int) (xs : List Int) (j : Nat) : Prop := ∀ i x, i < j → xs[i]? = some x → 0 ≤ x ∧ x < many ∧ ∀ y, 0 < i → xs[i - 1]? = some y → y < x
theorem risesFrom_is {many : Int} : ∀ {l : List Int} {last : Int}, risesFrom many last l = true ↔ ∀ i x, l[i]? = some x → last < x ∧ x < many ∧ ∀ y, 0 < i → l[i - 1]? = some y → y < x
 | [], _ => by simp [risesFrom]
 | n :: l, last => by
   rw [risesFrom, Bool.and_eq_true, decide_eq_true_eq, risesFrom_is]
   constructor
   · intro ⟨⟨h1, h2⟩, h3⟩ i x hx
     cases i with
     | zero =>
       simp at hx; subst hx
       exact ⟨h1, h2, fun y h => absurd h (by omega)⟩
     | succ i =>
       rw [List.getElem?_cons_succ] at hx
       obtain ⟨a1, a2, a3⟩ := h3 i x hx
       refine ⟨by omega, a2, fun y _ hy => ?_⟩
       cases i with
       | zero => simp at hy; subst hy; exact a1
       | succ i => exact a3 y (by omega) (by simpa using hy)
   · intro h
     have h0 := h 0 n rfl
     refine ⟨⟨h0.1, h0.2.1⟩, fun i x hx => ?_⟩
     obtain ⟨a1, a2, a3⟩ := h (i + 1) x (by simpa using hx)
     refine ⟨?_, a2, fun y hi hy => a3 y (by omega) ?_⟩
     · cases i with
       | zero => exact a3 n (by omega) rfl
       | succ i =>
         obtain ⟨y, hy⟩ : ∃ y, l[i]? = some y := ⟨l[i]'(by have := (List.getElem?_eq_some_iff.1 hx).1; omega), by simp⟩
         have b1 := a3 y (by omega) (by simpa using hy)
         have hr : ∀ (k : Nat) (z : Int), l[k]? = some z → n < z := by
           intro k
           induction k with
           | zero =>
             intro z hz
             exact (h 1 z (by simpa using hz)).2.2 n (by omega) rfl
           | succ k ih =>
             intro z hz
             obtain ⟨y, hy⟩ : ∃ y, l[k]? = some y := ⟨l[k]'(by have := (List.getElem?_eq_some_iff.1 hz).1; omega), by simp⟩
             have := ih y hy
             have := (h (k + 1 + 1) z (by simpa using hz)).2.2 y (by omega) (by simpa using hy)
             omega
         exact hr _ _ hx
     · cases i with
       | zero => omega
       | succ i => simpa using hy
theorem rises_to {many : Int} {xs : List Int} : risesFrom many (-1) xs = true ↔ RisesTo many xs xs.length := by
 rw [risesFrom_is]
 constructor
 · intro h i x _ hx
   obtain ⟨a, b, c⟩ := h i x hx
   exact ⟨by omega, b, c⟩
 · intro h i x hx
   obtain ⟨a, b, c⟩ := h i x (List.getElem?_eq_some_iff.1 hx).1 hx
   exact ⟨by omega, b, c⟩
theorem RisesTo.succ {many : Int} {xs : List Int} {j : Nat} {x : Int} (h : RisesTo many xs j) (hx : xs[j]? = some x) (h1 : 0 ≤ x) (h2 : x < many) (h3 : ∀ y, 0 < j → xs[j - 1]? = some y → y < x) : RisesTo many xs (j + 1) := by
 intro i z hi hz
 rcases Nat.lt_or_eq_of_le (Nat.le_of_lt_succ hi) with h' | rfl
 · exact h i z h' hz
 · rw [hx] at hz; cases hz
   exact ⟨h1, h2, h3⟩
theorem rises_no {many : Int} {xs : List Int} {j : Nat} {x : Int} (hx : xs[j]? = some x) (h : x < 0 ∨ many ≤ x ∨ ∃ y, 0 < j ∧ xs[j - 1]? = some y ∧ x ≤ y) : risesFrom many (-1) xs = false := by
 cases hr : risesFrom many (-1) xs with
 | false => rfl
 | true =>
   obtain ⟨a, b, c⟩ := rises_to.1 hr j x (List.getElem?_eq_some_iff.1 hx).1 hx
   rcases h with h | h | ⟨y, h1, h2, h3⟩
   · omega
   · omega
   · have := c y h1 h2; omega

set_option maxHeartbeats 2000000 in
theorem rises06_any (a : Option Addr) (n c : Nat) (xs : List Int) (many : Int) (w : World) (h : Ints w a n c xs) :
   Calls Tryz.prog 196 #[.slice a n c, .int .i64 many] w fun e w' => e = .returned (.bool (risesFrom many (-1) xs)) ∧ Below w.heap.size w w' := by
 have hb := h.big
 have HH := Lib.hid h; clear h
 obtain ⟨rv, hrv⟩ : ∃ rv, risesFrom many (-1) xs = rv := ⟨_, rfl⟩
 rw [hrv]
 have HRV := Lib.hid hrv; clear hrv
 go_enter Tryz.func196, Tryz.ntmps196
 go_wp2_with fail
 go_loopg [5] n (fun g s5 wr => ∃ j : Nat, j + g = n ∧ s5 = .int .i64 j ∧ RisesTo many xs j ∧ Below w.heap.size w wr)
 case atStart => exact ⟨0, by omega, rfl, fun i x h => absurd h (Nat.not_lt_zero i), Below.refl _ _⟩
 case round =>
   obtain ⟨j, hj, rfl, ht, hB⟩ := hrel
   have HJ := Lib.hid hj; clear hj
   have HT := Lib.hid ht; clear ht
   by_cases hlt : j < n
   · obtain ⟨x, hx, _⟩ := HH.out.get hlt
     obtain ⟨b, o, rfl⟩ := HH.out.addr (by omega)
     have hc := (HH.out.below hB (Nat.le_refl _)).cell b o rfl j x hx
     have HB := Lib.hid hB; clear hB
     have HX := Lib.hid hx; clear hx
     have i1 : (j : Int) < (n : Int) := by omega
     by_cases x0 : x < 0
     · have e1 : decide (x < 0) = true := by simpa using x0
       have hv : rv = false := by rw [← HRV.out]; exact rises_no HX.out (.inl x0)
       subst hv
       go_wp2_with fail
       all_goals try go_quiet (fail)
       all_goals go_wp2_with fail
       all_goals go_ret
       all_goals exact ⟨rfl, below_drewN HB.out _⟩
     have e1 : decide (x < 0) = false := by simpa using x0
     by_cases x1 : many ≤ x
     · have e2 : decide (many ≤ x) = true := by simpa using x1
       have hv : rv = false := by rw [← HRV.out]; exact rises_no HX.out (.inr (.inl x1))
       subst hv
       go_wp2_with fail
       all_goals try go_quiet (fail)
       all_goals go_wp2_with fail
       all_goals go_ret
       all_goals exact ⟨rfl, below_drewN HB.out _⟩
     have e2 : decide (many ≤ x) = false := by simpa using x1
     rcases Nat.eq_zero_or_pos j with j0 | j0
     · have e3 : decide ((0 : Int) < (j : Int)) = false := by simp; omega
       have e3' : decide (0 < j) = false := by simp; omega
       have HJ0 := Lib.hid j0; clear j0
       go_wp2_with fail
       all_goals go_quiet (fail)
       all_goals go_wp2_with fail
       all_goals go_roundg (gk - 1)
       case measure => have := HJ.out; omega
       case rel => exact ⟨j + 1, by have := HJ.out; omega, by go_num, HT.out.succ HX.out (by omega) (by omega) (fun y h => absurd h (by have := HJ0.out; omega)), below_drewN HB.out _⟩
     obtain ⟨m, rfl⟩ : ∃ m, j = m + 1 := ⟨j - 1, by omega⟩
     have e3 : decide ((0 : Int) < (((m + 1 : Nat)) : Int)) = true := by rw [decide_eq_true_eq]; omega
     have e4 : (((m + 1 : Nat)) : Int) - 1 = (m : Int) := by omega
     obtain ⟨y, hy, _⟩ := HH.out.get (k := m) (by omega)
     have hcy := (HH.out.below HB.out (Nat.le_refl _)).cell b o rfl m y hy
     have HY := Lib.hid hy; clear hy
     by_cases xy : x ≤ y
     · have e5 : decide (x ≤ y) = true := by simpa using xy
       have hv : rv = false := by rw [← HRV.out]; exact rises_no HX.out (.inr (.inr ⟨y, by omega, HY.out, xy⟩))
       subst hv
       go_wp2_with fail
       all_goals go_quiet (fail)
       all_goals go_wp2_with fail
       all_goals go_ret
       all_goals exact ⟨rfl, below_drewN HB.out _⟩
     have e5 : decide (x ≤ y) = false := by simpa using xy
     go_wp2_with fail
     all_goals go_quiet (fail)
     all_goals go_wp2_with fail
     all_goals go_roundg (gk - 1)
     case measure => have := HJ.out; omega
     case rel => exact ⟨m + 1 + 1, by have := HJ.out; omega, by go_num, HT.out.succ HX.out (by omega) (by omega) (fun z _ hz => by rw [Nat.add_sub_cancel, HY.out] at hz; cases hz; omega), below_drewN HB.out _⟩
   · obtain rfl : j = n := by have := HJ.out; omega
     have hl := HH.out.len
     have hv : rv = true := by rw [← HRV.out]; exact rises_to.2 (by rw [hl]; exact HT.out)
     subst hv
     have HB := Lib.hid hB; clear hB hl
     go_wp2_with fail
     go_ret
     exact ⟨rfl, HB.out⟩

set_option maxHeartbeats 1000000 in
theorem check06_any (a : Option Addr) (n c : Nat) (g : List (List Int)) (items : Int) (w : World) (h : Rows w a n c g) :
   Calls Tryz.prog 170 #[.slice a n c, .int .i64 items] w fun e w' => e = .returned (.bool (gcheck g items)) ∧ Below w.heap.size w w' := by
 have hl := h.len
 have hb := h.big
 have HH := Lib.hid h; clear h
 by_cases g1 : items < 0
 · have f1 : decide (items < 0) = true := by simpa using g1
   go_enter Tryz.func170, Tryz.ntmps170
   go_wp2_with fail
   go_ret
   exact ⟨ret_bool (by rw [gcheck, decide_eq_false (show ¬ 0 ≤ items by omega)]; rfl), Below.refl _ _⟩
 have f1 : decide (items < 0) = false := by simpa using g1
 by_cases g2 : 8 < items
 · have f2 : decide (8 < items) = true := by simpa using g2
   go_enter Tryz.func170, Tryz.ntmps170
   go_wp2_with fail
   go_ret
   exact ⟨ret_bool (by rw [gcheck, decide_eq_false (show ¬ items ≤ 8 by omega), Bool.and_false]; rfl), Below.refl _ _⟩
 have f2 : decide (8 < items) = false := by simpa using g2
 by_cases g3 : 8 < n
 · have f3 : decide (8 < (n : Int)) = true := by simp; omega
   have HL := Lib.hid hl; clear hl
   go_enter Tryz.func170, Tryz.ntmps170
   go_wp2_with fail
   go_ret
   exact ⟨ret_bool (by rw [gcheck, decide_eq_false (show ¬ g.length ≤ 8 by have := HL.out; omega), Bool.and_false]; rfl), Below.refl _ _⟩
 have f3 : decide (8 < (n : Int)) = false := by simp; omega
 have hgc : gcheck g items = !(g.any fun l => !risesFrom items (-1) l) := by
   rw [gcheck, decide_eq_true (show 0 ≤ items by omega), decide_eq_true (show items ≤ 8 by omega), decide_eq_true (show g.length ≤ 8 by omega)]; simp
 have HGC := Lib.hid hgc; clear hgc
 have HL := Lib.hid hl; clear hl
 go_enter Tryz.func170, Tryz.ntmps170
 go_wp2_with fail
 clear f1 f2 f3 g1 g2
 go_loopg [5] n (fun g' s5 wr => ∃ j : Nat, j + g' = n ∧ s5 = .int .i64 j ∧ (∀ l, l ∈ g.take j → risesFrom items (-1) l = true) ∧ Below w.heap.size w wr)
 case atStart => exact ⟨0, by omega, rfl, fun x h => by simp at h, Below.refl _ _⟩
 case round =>
   obtain ⟨j, hj, rfl, ht, hB⟩ := hrel
   have HJ := Lib.hid hj; clear hj
   have HT := Lib.hid ht; clear ht
   obtain ⟨w1, rfl⟩ : ∃ w1, w1 = wr := ⟨_, rfl⟩
   by_cases hlt : j < n
   · obtain ⟨l, hx⟩ := HH.out.get hlt
     obtain ⟨b, o, rfl⟩ := HH.out.addr (by omega)
     obtain ⟨la, ln, lc, hcl, hli⟩ := (HH.out.below hB (Nat.le_refl _)).cell b o rfl j l hx
     have HB := Lib.hid hB; clear hB
     have HX := Lib.hid hx; clear hx
     have HLI := Lib.hid hli; clear hli
     have i1 : (j : Int) < (n : Int) := by omega
     go_wp2_with fail
     refine (rises06_any la ln lc l items w1 HLI.out).mono ?_
     cases hr : risesFrom items (-1) l with
     | false =>
       rintro e w2 ⟨rfl, hb2⟩
       have HB2 := Lib.hid (HB.out.trans (hb2.mono HB.out.size)); clear hb2
       have HR := Lib.hid hr; clear hr
       go_wp2_with fail
       go_ret
       refine ⟨ret_bool ?_, HB2.out⟩
       rw [HGC.out, List.any_eq_true.2 ⟨l, List.mem_of_getElem? HX.out, by rw [HR.out]; rfl⟩]; rfl
     | true =>
       rintro e w2 ⟨rfl, hb2⟩
       have HB2 := Lib.hid (HB.out.trans (hb2.mono HB.out.size)); clear hb2
       have HR := Lib.hid hr; clear hr
       go_wp2_with fail
       go_roundg (gk - 1)
       case measure => have := HJ.out; omega
       case rel =>
         refine ⟨j + 1, by have := HJ.out; omega, by go_num, fun y hy => ?_, HB2.out⟩
         rw [List.take_add_one, HX.out] at hy
         simp only [Option.toList_some, List.mem_append, List.mem_singleton] at hy
         rcases hy with hy | rfl
         · exact HT.out y hy
         · exact HR.out
   · obtain rfl : j = n := by have := HJ.out; omega
     have HB := Lib.hid hB; clear hB
     go_wp2_with fail
     go_ret
     refine ⟨ret_bool ?_, HB.out⟩
     have ht := HT.out
     rw [List.take_of_length_le (by have := HL.out; omega)] at ht
     rw [HGC.out, List.any_eq_false.2 (fun l hl => by rw [ht l hl]; simp)]; rfl
end Go.Proofs.YtkddkkcfpnndlaaGreatDoor
