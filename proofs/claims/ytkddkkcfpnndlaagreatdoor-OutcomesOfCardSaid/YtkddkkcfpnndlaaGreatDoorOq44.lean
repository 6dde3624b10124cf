/- Walks: how much a market has in it. -/
import Derived.Test.YtkddkkcfpnndlaaGreatDoorOq09
import Derived.Test.YtkddkkcfpnndlaaGreatDoorOq11
import Derived.IntWalk
namespace Go.Proofs.YtkddkkcfpnndlaaGreatDoor
open Go.RowKit Sale

theorem intsSize_any (a : Option Addr) (n c : Nat) (w : World) (_hn : n ≤ 17592186044416) : Calls Tryz.prog 55 #[.slice a n c] w fun e w' => e = .returned (.int .i64 n) ∧ w = w' := by
 go_enter Tryz.func55, Tryz.ntmps55
 go_wp2_with fail
 go_ret
 exact ⟨rfl, rfl⟩

def SizeL (xss : List (List Int)) (s : Int) : Prop := 0 ≤ s ∧ s ≤ 35184372088832 ∧ (s ≤ 1000000 → (xss.length : Int) ≤ s ∧ ∀ xs, xs ∈ xss → (xs.length : Int) ≤ s)
def SizedL (xss : List (List Int)) (w : World) (e : Ending) (w' : World) : Prop := ∃ s : Int, e = .returned (.int .i64 s) ∧ SizeL xss s ∧ w = w'
def szF (s : Int) (xs : List Int) : Int := if s ≤ 1048576 then s + xs.length else s
def szL (xss : List (List Int)) : Int := xss.foldl szF xss.length
theorem szF_big {s : Int} (h : ¬ s ≤ 1048576) (l : List (List Int)) : l.foldl szF s = s := by
 induction l with
 | nil => rfl
 | cons x l ih => rw [List.foldl_cons, szF, if_neg h]; exact ih
set_option maxHeartbeats 1000000 in
theorem intListsSize_at (a : Option Addr) (n c : Nat) (xss : List (List Int)) (w : World) (h : Rows w a n c xss) (hn : n ≤ 17592186044416) (hx : ∀ xs, xs ∈ xss → xs.length ≤ 17592186044416) :
   Calls Tryz.prog 8 #[.slice a n c] w (fun e w' => e = .returned (.int .i64 (szL xss)) ∧ SizeL xss (szL xss) ∧ w = w') := by
 have hl := h.len
 have HH := Lib.hid h; clear h
 have HX := Lib.hid hx; clear hx
 have HL := Lib.hid hl; clear hl
 go_enter Tryz.func8, Tryz.ntmps8
 go_wp2_with fail
 go_loopg [3, 4] n (fun g s3 s4 wr => ∃ (k : Nat) (s : Int), k + g = n ∧ s4 = .int .i64 k ∧ s3 = .int .i64 s ∧ (n : Int) ≤ s ∧ s ≤ 35184372088832 ∧ (∀ xs, xs ∈ xss.take k → (xs.length : Int) ≤ s) ∧ s = (xss.take k).foldl szF n ∧ wr = w)
 case atStart => exact ⟨0, n, by omega, rfl, rfl, by omega, by omega, fun xs h => by simp at h, rfl, rfl⟩
 case round =>
   obtain ⟨k, s, hk, rfl, rfl, hs1, hs2, hs3, hse, rfl⟩ := hrel
   have HSE := Lib.hid hse; clear hse
   have HK := Lib.hid hk; clear hk
   have HS3 := Lib.hid hs3; clear hs3
   by_cases hlt : k < n
   · by_cases hm : s ≤ 1048576
     · obtain ⟨xs, hxs⟩ := HH.out.get hlt
       obtain ⟨b, o, rfl⟩ := HH.out.addr (by omega)
       obtain ⟨a', n', c', hc, hi⟩ := HH.out.cell b o rfl k xs hxs
       have hln := hi.len
       have hx1 := HX.out xs (List.mem_of_getElem? hxs)
       rw [hln] at hx1
       have HXS := Lib.hid hxs; clear hxs
       have HLN := Lib.hid hln; clear hln hi
       have i1 : (k : Int) < (n : Int) := by omega
       have hm' : decide (s ≤ 1048576) = true := by simpa using hm
       go_wp2_with fail
       refine (intsSize_any a' n' c' _ hx1).mono ?_
       rintro e w' ⟨rfl, rfl⟩
       go_wp2_with fail
       go_roundg (gk - 1)
       case measure => have := HK.out; omega
       case rel =>
         refine ⟨k + 1, s + n', by have := HK.out; omega, by go_num, rfl, by omega, by omega, fun ys hy => ?_, by rw [List.take_add_one, HXS.out, Option.toList_some, List.foldl_append, ← HSE.out, List.foldl_cons, List.foldl_nil, szF, if_pos hm, HLN.out], rfl⟩
         rw [List.take_add_one, HXS.out] at hy
         simp only [Option.toList_some, List.mem_append, List.mem_singleton] at hy
         rcases hy with hy | rfl
         · have := HS3.out ys hy; omega
         · rw [HLN.out]; omega
     · have hm' : decide (s ≤ 1048576) = false := by simpa using hm
       go_wp2_with fail
       go_ret
       have he : szL xss = s := by
         unfold szL
         conv => lhs; rw [← List.take_append_drop k xss]
         rw [List.foldl_append, List.take_append_drop, HL.out, ← HSE.out]
         exact szF_big (by omega) _
       rw [he]
       exact ⟨rfl, ⟨by omega, hs2, fun h => by omega⟩, rfl⟩
   · obtain rfl : k = n := by have := HK.out; omega
     go_wp2_with fail
     go_ret
     have hl := HL.out
     have he : szL xss = s := by
       rw [HSE.out, List.take_of_length_le (by omega)]
       unfold szL
       rw [HL.out]
     rw [he]
     refine ⟨rfl, ⟨by omega, hs2, fun _ => ⟨by omega, fun xs hx => HS3.out xs (by rw [List.take_of_length_le (by omega)]; exact hx)⟩⟩, rfl⟩
theorem intListsSize_any (a : Option Addr) (n c : Nat) (xss : List (List Int)) (w : World) (h : Rows w a n c xss) (hn : n ≤ 17592186044416) (hx : ∀ xs, xs ∈ xss → xs.length ≤ 17592186044416) :
   Calls Tryz.prog 8 #[.slice a n c] w (SizedL xss w) :=
 (intListsSize_at a n c xss w h hn hx).mono fun _ _ ⟨h1, h2, h3⟩ => ⟨_, h1, h2, h3⟩

def SizedM (m : Mkt) (w : World) (e : Ending) (w' : World) : Prop := ∃ s : Int, e = .returned (.int .i64 s) ∧ (0 ≤ s ∧ s ≤ 100000000000000) ∧ (s ≤ 1000 → m.res.length ≤ 1000 ∧ m.bids.length ≤ 1000 ∧ m.ord.length ≤ 1000 ∧ ∀ xs, xs ∈ m.bids → xs.length ≤ 1000) ∧ Below w.heap.size w w'
set_option maxHeartbeats 2000000 in
theorem marketSize_any (ra ba oa : Option Addr) (rn rc bn bc on oc : Nat) (m : Mkt) (w : World) (hm : MktAt w ra ba oa rn rc bn bc on oc m) (h1 : rn ≤ 17592186044416) (h2 : bn ≤ 17592186044416) (h3 : on ≤ 17592186044416) (hx : ∀ xs, xs ∈ m.bids → xs.length ≤ 17592186044416) :
   Calls Tryz.prog 23 #[.agg #[.slice ra rn rc, .slice ba bn bc, .slice oa on oc]] w (SizedM m w) := by
 have hl1 := hm.res.len
 have hl2 := hm.bids.len
 have hl3 := hm.ord.len
 have HM := Lib.hid (mw_start w ra ba oa rn rc bn bc on oc)
 obtain ⟨c0, c1, c2, hs, hbw⟩ := mw_kept HM.out
 have hbids := hm.bids.below hbw (Nat.le_refl _)
 obtain ⟨w1, hw1⟩ : ∃ w1, w1 = mw w ra ba oa rn rc bn bc on oc := ⟨_, rfl⟩
 rw [← hw1] at c0 c1 c2 hbids hbw
 have HBI := Lib.hid hbids; clear hbids
 have HBW := Lib.hid hbw; clear hbw
 have HX := Lib.hid hx; clear hx
 have HL := Lib.hid (And.intro hl1 (And.intro hl2 hl3)); clear hl1 hl2 hl3 hm hs HM
 have hw1' : w.alloc (.cells #[.slice ra rn rc, .slice ba bn bc, .slice oa on oc] 57) = w1 := hw1.symm
 clear hw1
 go_enter Tryz.func23, Tryz.ntmps23
 go_wp2_with fail
 try rw [hw1']
 clear hw1'
 refine (intsSize_any ra rn rc w1 h1).mono ?_
 rintro e w' ⟨rfl, rfl⟩
 by_cases g1 : (1 : Int) + rn ≤ 1048576
 · have g1' : decide ((1 : Int) + rn ≤ 1048576) = true := by simpa using g1
   go_wp2_with fail
   refine (intListsSize_any ba bn bc m.bids w1 HBI.out h2 HX.out).mono ?_
   rintro e w' ⟨s, rfl, ⟨s0, s1, s2⟩, rfl⟩
   have HS2 := Lib.hid s2; clear s2
   by_cases g2 : (1 : Int) + rn + s ≤ 1048576
   · have g2' : decide ((1 : Int) + rn + s ≤ 1048576) = true := by simpa using g2
     go_wp2_with fail
     refine (intsSize_any oa on oc w1 h3).mono ?_
     rintro e w' ⟨rfl, rfl⟩
     go_wp2_with fail
     go_ret
     obtain ⟨l1, l2, l3⟩ := HL.out
     refine ⟨1 + rn + s + on, rfl, by omega, fun h => ?_, HBW.out⟩
     obtain ⟨a1, a2⟩ := HS2.out (by omega)
     exact ⟨by omega, by omega, by omega, fun xs hx => by have := a2 xs hx; omega⟩
   · have g2' : decide ((1 : Int) + rn + s ≤ 1048576) = false := by simpa using g2
     go_wp2_with fail
     go_ret
     exact ⟨1 + rn + s, rfl, by omega, fun h => by omega, HBW.out⟩
 · have g1' : decide ((1 : Int) + rn ≤ 1048576) = false := by simpa using g1
   go_wp2_with fail
   go_ret
   exact ⟨1 + rn, rfl, by omega, fun h => by omega, HBW.out⟩
end Go.Proofs.YtkddkkcfpnndlaaGreatDoor
