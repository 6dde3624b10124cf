/- Walks: demands: may prices be; what one gains by each item at prices. -/
import Derived.Test.YtkddkkcfpnndlaaGreatDoorOq08
import Derived.Test.YtkddkkcfpnndlaaGreatDoorOq17
namespace Go.Proofs.YtkddkkcfpnndlaaGreatDoor
open Go.RowKit Go.Shelf

attribute [local go_sem] Oper.semAt_some

def AsksI0 (g : Nat) (w : World) (p : Int → Bool) : Prop :=
 ∀ (w' : World) (x : Int), Below w.heap.size w w' → Calls Tryz.prog g #[.int .i64 x] w' fun e w'' => e = .returned (.bool (p x)) ∧ Below w'.heap.size w' w''

set_option maxHeartbeats 400000 in
theorem indexI0_any (a : Option Addr) (n c : Nat) (xs : List Int) (g : Nat) (p : Int → Bool) (w : World) (h : Ints w a n c xs) (hg : Enters g) (hp : AsksI0 g w p) :
   Calls Tryz.prog 191 #[.slice a n c, .func (.func g) #[] #[]] w fun e w' => e = .returned (.int .i64 (idxOf (xs.findIdx? p))) ∧ Below w.heap.size w w' := by
 have hb := h.big
 unfold Enters at hg
 go_enter Tryz.func191, Tryz.ntmps191
 go_wp2_with fail
 go_loopg [8] n (fun g' s8 wr => ∃ k : Nat, k + g' = n ∧ s8 = .int .i64 k ∧ Below w.heap.size w wr ∧ (xs.take k).findIdx? p = none)
 case atStart => exact ⟨0, by omega, rfl, Below.refl _ _, rfl⟩
 case round =>
   obtain ⟨k, hk, rfl, hB, hf⟩ := hrel
   by_cases hlt : k < n
   · obtain ⟨x, hx, _⟩ := h.get hlt
     obtain ⟨b, o, rfl⟩ := h.addr (by omega)
     have hc := (h.below hB (Nat.le_refl _)).cell b o rfl k x hx
     have HP := Lib.hid (hp wr x hB)
     have H := Lib.hid h; clear h hp
     have HF := Lib.hid hf; clear hf
     have HX := Lib.hid hx; clear hx
     have HK := Lib.hid hk; clear hk
     have HB := Lib.hid hB; clear hB
     cases hpx : p x with
     | true =>
       have HQ := Lib.hid hpx; clear hpx
       go_wp2_with fail
       refine HP.out.mono ?_
       rw [HQ.out]
       rintro e w1 ⟨rfl, hb1⟩
       have HB1 := Lib.hid hb1; clear hb1
       go_wp2_with fail
       go_ret
       refine ⟨ret_int ?_, HB.out.trans (HB1.out.mono HB.out.size)⟩
       rw [findIdx_at HX.out HF.out HQ.out]; rfl
     | false =>
       have HQ := Lib.hid hpx; clear hpx
       go_wp2_with fail
       refine HP.out.mono ?_
       rw [HQ.out]
       rintro e w1 ⟨rfl, hb1⟩
       have HB1 := Lib.hid hb1; clear hb1
       go_wp2_with fail
       go_roundg (gk - 1)
       case measure => have := HK.out; omega
       case rel => exact ⟨k + 1, by have := HK.out; omega, by go_num, HB.out.trans (HB1.out.mono HB.out.size), findIdx_on HX.out HF.out HQ.out⟩
   · obtain rfl : k = n := by omega
     have HF := Lib.hid hf; clear hf
     have HB := Lib.hid hB; clear hB
     have H := Lib.hid h; clear h hp
     go_wp2_with fail
     go_ret
     refine ⟨ret_int ?_, HB.out⟩
     have hl := H.out.len
     have hf := HF.out
     rw [List.take_of_length_le (by omega)] at hf
     rw [hf]; rfl
set_option maxHeartbeats 400000 in
theorem containsI0_any (a : Option Addr) (n c : Nat) (xs : List Int) (g : Nat) (p : Int → Bool) (w : World) (h : Ints w a n c xs) (hg : Enters g) (hp : AsksI0 g w p) :
   Calls Tryz.prog 163 #[.slice a n c, .func (.func g) #[] #[]] w fun e w' => e = .returned (.bool (xs.any p)) ∧ Below w.heap.size w w' := by
 have HH := Lib.hid h; clear h
 have HG := Lib.hid hg; clear hg
 have HP := Lib.hid hp; clear hp
 go_enter Tryz.func163, Tryz.ntmps163
 go_wp2_with fail
 refine (indexI0_any a n c xs g p w HH.out HG.out HP.out).mono ?_
 rintro e w1 ⟨rfl, hb1⟩
 have HB1 := Lib.hid hb1; clear hb1
 go_wp2_with fail
 go_ret
 refine ⟨ret_bool ?_, HB1.out⟩
 rw [idxOf_ge, ← List.findIdx?_isSome]


def priceOk (x : Int) : Bool := decide (0 ≤ x) && decide (x ≤ 2000000)
theorem badPrice_any (x : Int) (w : World) : Calls Tryz.prog 223 #[.int .i64 x] w fun e w' => e = .returned (.bool (!priceOk x)) ∧ Below w.heap.size w w' := by
 by_cases h0 : x < 0
 · have hv : (!priceOk x) = true := by simp [priceOk]; omega
   rw [hv]; clear hv
   go_enter Tryz.func223, Tryz.ntmps223
   go_wp2_with fail
   go_ret
   exact ⟨rfl, Below.refl _ _⟩
 · have hv : (!priceOk x) = decide (2000000 < x) := by
     unfold priceOk
     rw [decide_eq_true (by omega : 0 ≤ x), Bool.true_and, Bool.eq_iff_iff]; simp
   rw [hv]; clear hv
   go_enter Tryz.func223, Tryz.ntmps223
   go_wp2_with fail
   go_ret
   exact ⟨rfl, Below.refl _ _⟩
theorem may_yes (a : Option Addr) (n c : Nat) (xs : List Int) (w : World) (h : Ints w a n c xs) (h1 : 1 ≤ n) (h8 : n ≤ 8) (hx : ∀ x, x ∈ xs → 0 ≤ x ∧ x ≤ 2000000) :
   Calls Tryz.prog 211 #[.slice a n c, .int .i64 n] w fun e w' => e = .returned (.bool true) ∧ Below w.heap.size w w' := by
 have HC := Lib.hid (containsI0_any a n c xs 223 (fun x => !priceOk x) w h (fun _ _ => enters_of Tryz.func223 (by kernel_rfl) rfl _ _) (fun w' x _ => badPrice_any x w'))
 have hno : (xs.any fun x => !priceOk x) = false := by
   rw [List.any_eq_false]
   intro x hm
   have := hx x hm
   simp [priceOk]; omega
 have HNO := Lib.hid hno; clear hno h hx
 go_enter Tryz.func211, Tryz.ntmps211
 go_wp2_with fail
 refine HC.out.mono ?_
 rw [HNO.out]
 rintro e w1 ⟨rfl, hb⟩
 have HB := Lib.hid hb; clear hb
 go_wp2_with fail
 go_ret
 exact ⟨rfl, HB.out⟩

structure Gn where
 k : Nat
 d : Int
abbrev encG (x : Gn) : Array Value := #[.int .i64 x.k, .int .i64 x.d]
def GG (x : Gn) (_ : World) : Prop := x.k ≤ 8 ∧ -2000000 ≤ x.d ∧ x.d ≤ 1000000
def gainsTo (bid prices : List Int) (n : Nat) : List Gn := (List.range n).map fun k => ⟨k, bid.getD k 0 - prices.getD k 0⟩
theorem gainsTo_succ (bid prices : List Int) (n : Nat) : gainsTo bid prices (n + 1) = gainsTo bid prices n ++ [⟨n, bid.getD n 0 - prices.getD n 0⟩] := by simp [gainsTo, List.range_succ]
theorem gainsTo_length (bid prices : List Int) (n : Nat) : (gainsTo bid prices n).length = n := by simp [gainsTo]
theorem gainsTo_prefix (bid prices : List Int) {j k : Nat} (h : j ≤ k) : gainsTo bid prices j <+: gainsTo bid prices k := by
 induction k with
 | zero => obtain rfl : j = 0 := by omega
           exact List.prefix_refl _
 | succ k ih =>
   rcases Nat.lt_or_ge j (k + 1) with h1 | h1
   · exact (ih (by omega)).trans (by rw [gainsTo_succ]; exact List.prefix_append _ _)
   · obtain rfl : j = k + 1 := by omega
     exact List.prefix_refl _

theorem gains_fn (ba pa : Option Addr) (bn bc pn pc : Nat) (w : World) :
   Calls Tryz.prog 225 #[.slice ba bn bc, .slice pa pn pc] w fun e w' => e = .returned (.func (.func 235) #[] #[.pointer (some ⟨w.heap.size, 0, none⟩), .pointer (some ⟨w.heap.size + 1, 0, none⟩)]) ∧
     (w.alloc (.cells #[.slice ba bn bc] 25)).alloc (.cells #[.slice pa pn pc] 25) = w' := by
 go_enter Tryz.func225, Tryz.ntmps225
 go_wp2_with fail
 go_ret
 exact ⟨rfl, rfl⟩

set_option maxRecDepth 100000 in
set_option maxHeartbeats 1000000 in
theorem gains_seq (B1 B2 : Nat) (ba pa : Option Addr) (bn bc pn pc : Nat) (bid prices : List Int) (X : Nat → Prop) (w : World) (h1 : Boxed w B1 25 (.slice ba bn bc)) (h2 : Boxed w B2 25 (.slice pa pn pc)) (hb : Ints w ba bn bc bid) (hp : Ints w pa pn pc prices)
   (hbn : bn ≤ pn) (h8 : bn ≤ 8) (hbb : ∀ x, x ∈ bid → 0 ≤ x ∧ x ≤ 1000000) (hpp : ∀ x, x ∈ prices → 0 ≤ x ∧ x ≤ 2000000) (hX1 : ¬ X B1) (hX2 : ¬ X B2) (hXb : ∀ b o, ba = some ⟨b, o, none⟩ → 0 < bn → ¬ X b) (hXp : ∀ b o, pa = some ⟨b, o, none⟩ → 0 < pn → ¬ X b) :
   SeqM Tryz.prog 235 #[.pointer (some ⟨B1, 0, none⟩), .pointer (some ⟨B2, 0, none⟩)] encG X GG (fun ys => ys = gainsTo bid prices bn) (fun pre => pre <+: gainsTo bid prices bn) bn w := by
 intro l J Jx W hW hl hlt hJ hJx hY h0
 have hbl := hb.len
 have hpl := hp.len
 have hbig := hb.big
 have h1' : Boxed W B1 25 (.slice ba bn bc) := by unfold Boxed; rw [hW.block _ h1.lt]; exact h1
 have h2' : Boxed W B2 25 (.slice pa pn pc) := by unfold Boxed; rw [hW.block _ h2.lt]; exact h2
 have c1 := h1'.cell
 have hXo : ∀ b, b < w.heap.size → ¬ X b → ¬ (b = l ∨ X b) := fun b hb hx h => h.elim (fun e => by omega) hx
 have hlt1 := h1.lt
 have hlt2 := h2.lt
 have HW := Lib.hid (And.intro h1' (And.intro h2' (And.intro (hb.below hW (Nat.le_refl _)) (hp.below hW (Nat.le_refl _))))); clear h1' h2'
 have hXb' : ∀ b o, ba = some ⟨b, o, none⟩ → 0 < bn → ¬ (b = l ∨ X b) := fun b o e h => hXo b (by obtain ⟨x, hx, _⟩ := hb.get h; exact block_lt_of_cell (hb.cell b o e 0 x hx)) (hXb b o e h)
 have hXp' : ∀ b o, pa = some ⟨b, o, none⟩ → 0 < pn → ¬ (b = l ∨ X b) := fun b o e h => hXo b (by obtain ⟨x, hx, _⟩ := hp.get h; exact block_lt_of_cell (hp.cell b o e 0 x hx)) (hXp b o e h)
 have HXX := Lib.hid (And.intro (hXo _ hlt1 hX1) (And.intro (hXo _ hlt2 hX2) (And.intro hXb' hXp'))); clear hXb' hXp' hXo
 have HY := Lib.hid hY; clear hY
 have HJ0 := Lib.hid h0; clear h0
 have HBB := Lib.hid hbb; clear hbb
 have HPP := Lib.hid hpp; clear hpp
 have HL := Lib.hid (And.intro hbl hpl); clear hbl hpl hb hp h1 h2 hX1 hX2 hXb hXp hJ hJx hW
 refine callsIn_of_wp Tryz.func235 rfl trivial ?_ rfl
 simp only [Tryz.ntmps235, List.size_toArray, List.length_cons, List.length_nil, Nat.reduceAdd, Nat.reduceSub, Array.replicate_succ, Array.replicate_zero, List.push_toArray, List.append_toArray, List.nil_append, List.cons_append]
 gi_wp2
 gi_loopg [8] bn (fun g' s8 wr => ∃ i : Nat, i + g' = bn ∧ s8 = .int .i64 i ∧ J (gainsTo bid prices i) wr ∧ Kx (fun b => b = l ∨ X b) W wr)
 case atStart => exact ⟨0, by omega, rfl, HJ0.out, Kx.refl _ _⟩
 case round =>
   obtain ⟨i, hi, rfl, hJi, hk⟩ := hrel
   have HI := Lib.hid hi; clear hi
   by_cases hlt : i < bn
   · have hbW := hk.ints HW.out.2.2.1 HXX.out.2.2.1
     have hpW := hk.ints HW.out.2.2.2 HXX.out.2.2.2
     obtain ⟨x, hx, _⟩ := hbW.get hlt
     obtain ⟨p, hp, _⟩ := hpW.get (show i < pn by omega)
     obtain ⟨bb, bo, rfl⟩ := hbW.addr (by omega)
     obtain ⟨pb, po, rfl⟩ := hpW.addr (by omega)
     have cx := hbW.cell bb bo rfl i x hx
     have cp := hpW.cell pb po rfl i p hp
     have c2 := (hk.boxed HW.out.2.1 HXX.out.2.1).cell
     have hx1 := HBB.out x (List.mem_of_getElem? hx)
     have hp1 := HPP.out p (List.mem_of_getElem? hp)
     have hd : bid.getD i 0 - prices.getD i 0 = x - p := by rw [List.getD_eq_getElem?_getD, List.getD_eq_getElem?_getD, hx, hp]; rfl
     obtain ⟨fn, tmps, assign, body, hy, hR⟩ := HY.out (gainsTo bid prices i) ⟨i, x - p⟩ wr ⟨by show i ≤ 8; omega, by show -2000000 ≤ x - p; omega, by show x - p ≤ 1000000; omega⟩ hJi (by rw [gainsTo_length]; exact hlt)
     dsimp only [encG] at hy
     have i1 : (i : Int) < (pn : Int) := by omega
     have HD := Lib.hid hd; clear hd
     have HK := Lib.hid hk; clear hk
     clear hx hp hbW hpW hJi
     gi_wp2
     refine hR.mono ?_
     rintro e W3 ⟨(⟨rfl, hJ3⟩ | ⟨rfl, hJ3⟩), hk3⟩
     · have HJ3 := Lib.hid hJ3; clear hJ3
       have HK3 := Lib.hid hk3; clear hk3
       gi_wp2
       gi_roundg (gk - 1)
       case measure => have := HI.out; omega
       case rel => exact ⟨i + 1, by have := HI.out; omega, by go_num, by rw [gainsTo_succ, HD.out]; exact HJ3.out, HK.out.trans HK3.out⟩
     · have HJ3 := Lib.hid hJ3; clear hJ3
       gi_wp2
       refine bodyPost_ret (results_none rfl _ _ _) rfl ?_
       exact ⟨⟨_, rfl⟩, .inr ⟨_, by have := gainsTo_prefix bid prices (show i + 1 ≤ bn by omega); rw [gainsTo_succ, HD.out] at this; exact this, HJ3.out⟩⟩
   · obtain rfl : i = bn := by have := HI.out; omega
     have HJi := Lib.hid hJi; clear hJi hk
     gi_wp2
     go_end0
     exact ⟨⟨_, rfl⟩, .inl ⟨_, rfl, HJi.out⟩⟩
end Go.Proofs.YtkddkkcfpnndlaaGreatDoor
