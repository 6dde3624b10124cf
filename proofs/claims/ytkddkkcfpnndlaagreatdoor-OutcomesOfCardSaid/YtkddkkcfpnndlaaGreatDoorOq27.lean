/- Walks: are two lists the same? What one would have at prices, in the words of the plain texts. Walks: what a matching gains. Walks: the law FirstsBest. Walks: the law FirstsIdle: what the operations of its two great regions yield. Walks: the reference's demands: may prices be? what one would have at prices. Walks: demands.All. -/
import Derived.Test.YtkddkkcfpnndlaaGreatDoorOq00
import Derived.Test.YtkddkkcfpnndlaaGreatDoorRows
import Derived.Test.YtkddkkcfpnndlaaGreatDoorOq25
import Derived.Test.YtkddkkcfpnndlaaGreatDoorOq02
import Derived.Test.YtkddkkcfpnndlaaGreatDoorOq06
import Derived.Test.YtkddkkcfpnndlaaGreatDoorOq07
import Derived.Test.YtkddkkcfpnndlaaGreatDoorOq08
import Derived.Test.YtkddkkcfpnndlaaGreatDoorOq10
import Derived.Test.YtkddkkcfpnndlaaGreatDoorOq09
import Derived.Test.YtkddkkcfpnndlaaGreatDoorOq13
import Derived.Test.YtkddkkcfpnndlaaGreatDoorOq16
import Derived.Test.YtkddkkcfpnndlaaGreatDoorOq26
import Derived.Test.YtkddkkcfpnndlaaGreatDoorOq11
import Derived.BigRegion
namespace Go.Proofs.YtkddkkcfpnndlaaGreatDoor
open Go.RowKit

theorem same_any (a b : Option Addr) (n c m d : Nat) (xs ys : List Int) (w : World) (hx : Ints w a n c xs) (hy : Ints w b m d ys) :
   Calls Tryz.prog 13 #[.slice a n c, .slice b m d] w fun e w' => e = .returned (.bool (decide (xs = ys))) ∧ Below w.heap.size w w' := by
 have HX := Lib.hid hx.len
 have HY := Lib.hid hy.len
 by_cases hl : n = m
 · subst hl
   have H1 := Lib.hid hx; clear hx
   have H2 := Lib.hid hy; clear hy
   have hbig := H1.out.big
   go_enter Tryz.func13, Tryz.ntmps13
   go_wp2_with fail
   go_loopg [5] n (fun g s7 wr => ∃ k : Nat, k + g = n ∧ s7 = .int .i64 k ∧ Below w.heap.size w wr ∧ xs.take k = ys.take k)
   case atStart => exact ⟨0, by omega, rfl, Below.refl _ _, rfl⟩
   case round =>
     obtain ⟨k, hk, rfl, hB, ht⟩ := hrel
     have HT := Lib.hid ht; clear ht
     by_cases hlt : k < n
     · obtain ⟨x, hx, _⟩ := H1.out.get hlt
       obtain ⟨y, hy, _⟩ := H2.out.get hlt
       obtain ⟨b1, o1, rfl⟩ := H1.out.addr (by omega)
       obtain ⟨b2, o2, rfl⟩ := H2.out.addr (by omega)
       have hc1 := (H1.out.below hB (Nat.le_refl _)).cell b1 o1 rfl k x hx
       have hc2 := (H2.out.below hB (Nat.le_refl _)).cell b2 o2 rfl k y hy
       have HB := Lib.hid hB; clear hB
       have HK := Lib.hid hk; clear hk
       have HXK := Lib.hid hx; clear hx
       have HYK := Lib.hid hy; clear hy
       go_wp2_with fail
       go_region
       by_cases hxy : x = y
       · subst hxy
         go_wp2_with fail
         go_roundg (gk - 1)
         case measure => have := HK.out; omega
         case rel => exact ⟨k + 1, by have := HK.out; omega, by go_num, HB.out.drew, by rw [List.take_add_one, List.take_add_one, HXK.out, HYK.out, HT.out]⟩
       · have e1 : (x != y) = true := by simp [hxy]
         have HN := Lib.hid hxy; clear hxy
         go_wp2_with fail
         go_ret
         refine ⟨ret_bool ?_, HB.out.drew⟩
         symm
         rw [decide_eq_false_iff_not]
         intro h
         have := HXK.out
         rw [h, HYK.out] at this
         cases this
         exact HN.out rfl
     · obtain rfl : k = n := by omega
       go_wp2_with fail
       go_ret
       refine ⟨ret_bool ?_, hB⟩
       symm
       rw [decide_eq_true_eq]
       have := HT.out
       rwa [List.take_of_length_le (by rw [HX.out]; exact Nat.le_refl _), List.take_of_length_le (by rw [HY.out]; exact Nat.le_refl _)] at this
 · have e1 : ((n : Int) != (m : Int)) = true := by simp; omega
   clear hx hy
   have HL := Lib.hid hl; clear hl
   go_enter Tryz.func13, Tryz.ntmps13
   go_wp2_with fail
   go_ret
   refine ⟨ret_bool ?_, Below.refl _ _⟩
   symm
   rw [decide_eq_false_iff_not]
   rintro rfl
   exact HL.out (HX.out.symm.trans HY.out)
end Go.Proofs.YtkddkkcfpnndlaaGreatDoor

namespace Go.Proofs.YtkddkkcfpnndlaaGreatDoor
open Go.RowKit Sale

def demS (f : Nat → Int) (s : List Nat × Int) (k : Nat) : List Nat × Int := if s.2 < f k then ([k], f k) else if f k = s.2 then (s.1 ++ [k], s.2) else s
theorem demS_max (f : Nat → Int) (n : Nat) : ((List.range n).foldl (demS f) ([], 0)).2 = foldMax (fun _ => true) f 0 (List.range n) := by
 induction n with
 | zero => rfl
 | succ n ih =>
   rw [List.range_succ, List.foldl_append, foldMax_snoc, if_pos rfl, ← ih]
   simp only [List.foldl_cons, List.foldl_nil]
   unfold demS
   split
   · simp only; omega
   · split
     · simp only; omega
     · omega
theorem demS_list (f : Nat → Int) (n : Nat) : ((List.range n).foldl (demS f) ([], 0)).1 = (List.range n).filter fun k => decide (f k = ((List.range n).foldl (demS f) ([], 0)).2) := by
 induction n with
 | zero => rfl
 | succ n ih =>
   have hle : ∀ k, k < n → f k ≤ ((List.range n).foldl (demS f) ([], 0)).2 := fun k hk => by
     rw [demS_max]; exact foldMax_ge (fun _ => true) f _ _ k (List.mem_range.2 hk) rfl
   rw [List.range_succ, List.foldl_append, List.filter_append]
   simp only [List.foldl_cons, List.foldl_nil]
   generalize (List.range n).foldl (demS f) ([], 0) = s at ih hle ⊢
   by_cases h1 : s.2 < f n
   · have e : demS f s n = ([n], f n) := by unfold demS; rw [if_pos h1]
     simp only [e]
     rw [List.filter_eq_nil_iff.2 (fun k hk => by have := hle k (List.mem_range.1 hk); simp; omega)]
     simp
   · by_cases h2 : f n = s.2
     · have e : demS f s n = (s.1 ++ [n], s.2) := by unfold demS; rw [if_neg h1, if_pos h2]
       simp only [e]
       rw [← ih]
       simp [h2]
     · have e : demS f s n = s := by unfold demS; rw [if_neg h1, if_neg h2]
       simp only [e]
       rw [← ih]
       simp [h2]
theorem demOf_fold (bid prices : List Int) : demOf bid prices = (List.range bid.length).foldl (demS fun k => bid.getD k 0 - prices.getD k 0) ([], 0) := by
 unfold demOf dState gainsTo
 rw [List.foldl_map]
 rfl
theorem demOf_is {bid prices : List Int} {g : Nat → Nat → Int} {N i : Nat} {q : Nat → Int} (hb : bid = [] ∨ bid.length = N) (h0 : bid = [] → ∀ k, k < N → g i k - q k < 0) (h1 : bid ≠ [] → ∀ k, k < N → g i k - q k = bid.getD k 0 - prices.getD k 0) :
   demOf bid prices = (dem g N q i, top g N q i) := by
 by_cases he : bid = []
 · have ht : top g N q i = 0 := top_eq (by omega) (fun k hk => by have := h0 he k hk; omega) (.inl rfl)
   have hd : dem g N q i = [] := by
     unfold dem
     rw [List.filter_eq_nil_iff]
     intro k hk
     have := h0 he k (List.mem_range.1 hk)
     rw [ht]; simp; omega
   rw [ht, hd, he]; rfl
 · have hl : bid.length = N := hb.resolve_left he
   have hm : ((List.range bid.length).foldl (demS fun k => bid.getD k 0 - prices.getD k 0) ([], 0)).2 = top g N q i := by
     rw [demS_max, hl]
     unfold top
     exact foldMax_congr _ _ (fun _ _ => rfl) (fun k hk _ => (h1 he k (List.mem_range.1 hk)).symm)
   have hL := demS_list (fun k => bid.getD k 0 - prices.getD k 0) bid.length
   rw [hm] at hL
   rw [demOf_fold]
   refine Prod.ext ?_ hm
   rw [hL, hl]
   unfold dem
   exact List.filter_congr fun k hk => by rw [h1 he k (List.mem_range.1 hk)]
end Go.Proofs.YtkddkkcfpnndlaaGreatDoor

namespace Go.Proofs.YtkddkkcfpnndlaaGreatDoor
open Go.RowKit Sale

theorem gi_bd {gains : List (List Int)} (hb : ∀ l, l ∈ gains → ∀ x, x ∈ l → -1000000 ≤ x ∧ x ≤ 1000000) (i k : Nat) : -1000000 ≤ gi gains i k ∧ gi gains i k ≤ 1000000 := by
 unfold gi
 cases h : gains[i]? with
 | none => simp
 | some l =>
   simp only [Option.getD_some]
   cases hx : l[k]? with
   | none => simp
   | some x => exact hb l (List.mem_of_getElem? h) x (List.mem_of_getElem? hx)
end Go.Proofs.YtkddkkcfpnndlaaGreatDoor

namespace Go.Proofs.YtkddkkcfpnndlaaGreatDoor
open Go.RowKit Sale

def gw (w : World) (ga : Option Addr) (gn gc : Nat) (items : Int) : World := w.alloc (.cells #[.slice ga gn gc, .int .i64 items] 24)
end Go.Proofs.YtkddkkcfpnndlaaGreatDoor

namespace Go.Proofs.YtkddkkcfpnndlaaGreatDoor
open Go.RowKit Sale

theorem Own.lower {w : World} {base B : Nat} {v : Value} {xs : List Int} (h : Own w base v xs) (hB : B ≤ base) : Own w B v xs := by
 obtain ⟨h1, h2⟩ := h
 refine ⟨h1, ?_⟩
 rcases h2 with h2 | ⟨g, cap, cur, hv, hg, r⟩
 · exact .inl h2
 · exact .inr ⟨g, cap, cur, hv, by omega, r⟩
end Go.Proofs.YtkddkkcfpnndlaaGreatDoor

namespace Go.Proofs.YtkddkkcfpnndlaaGreatDoor
open Go.RowKit Sale

set_option maxHeartbeats 1000000 in
theorem prices12_yes (pa : Option Addr) (pn pc : Nat) (prices : List Int) (w : World) (hp : Ints w pa pn pc prices) (h1 : 1 ≤ pn) (h8 : pn ≤ 8) (hpp : ∀ x, x ∈ prices → 0 ≤ x ∧ x ≤ 2000000) :
   Calls Tryz.prog 206 #[.slice pa pn pc] w fun e w' => e = .returned (.bool true) ∧ w = w' := by
 have HP := Lib.hid hp; clear hp
 have HPP := Lib.hid hpp; clear hpp
 have e1 : decide ((pn : Int) < 1) = false := by simp; omega
 have e2 : decide (8 < (pn : Int)) = false := by simp; omega
 have e3 : decide (pn < 1) = false := by simp; omega
 have e4 : decide (8 < pn) = false := by simp; omega
 go_enter Tryz.func206, Tryz.ntmps206
 go_wp2_with fail
 clear e1 e2 e3 e4
 go_loopg [3] pn (fun g' s3 wr => ∃ k : Nat, k + g' = pn ∧ s3 = .int .i64 k ∧ w = wr)
 case atStart => exact ⟨0, by omega, rfl, rfl⟩
 case round =>
   obtain ⟨k, hk, rfl, rfl⟩ := hrel
   have HK := Lib.hid hk; clear hk
   by_cases hlt : k < pn
   · obtain ⟨x, hx, _⟩ := HP.out.get hlt
     obtain ⟨b, o, rfl⟩ := HP.out.addr (by omega)
     have cx := HP.out.cell b o rfl k x hx
     have hx2 := HPP.out x (List.mem_of_getElem? hx)
     have e1 : decide (x < 0) = false := by simp; omega
     have e2 : decide (2000000 < x) = false := by simp; omega
     have i1 : (k : Int) < (pn : Int) := by omega
     clear hx hx2
     go_wp2_with fail
     go_roundg (gk - 1)
     case measure => have := HK.out; omega
     case rel => exact ⟨k + 1, by have := HK.out; omega, by go_num, rfl⟩
   · obtain rfl : k = pn := by have := HK.out; omega
     go_wp2_with fail
     go_ret
     exact ⟨rfl, rfl⟩

def gnF (bid prices : List Int) (k : Nat) : Int := bid.getD k 0 - prices.getD k 0
def gnTo (bid prices : List Int) (k : Nat) : Int := foldMax (fun _ => true) (gnF bid prices) 0 (List.range k)
theorem gnTo_succ (bid prices : List Int) (k : Nat) : gnTo bid prices (k + 1) = max (gnTo bid prices k) (gnF bid prices k) := by
 unfold gnTo; rw [List.range_succ, foldMax_snoc, if_pos rfl]
theorem demOf_gain (bid prices : List Int) : (demOf bid prices).2 = gnTo bid prices bid.length := by
 rw [demOf_fold, demS_max]; rfl
theorem demOf_items (bid prices : List Int) : (demOf bid prices).1 = (List.range bid.length).filter fun k => decide (gnF bid prices k = gnTo bid prices bid.length) := by
 rw [← demOf_gain, demOf_fold]
 exact demS_list _ _
def itTo (bid prices : List Int) (G : Int) (k : Nat) : List Nat := (List.range k).filter fun k => decide (gnF bid prices k = G)
theorem itTo_yes {bid prices : List Int} {G : Int} {k : Nat} (h : gnF bid prices k = G) : itTo bid prices G (k + 1) = itTo bid prices G k ++ [k] := by
 unfold itTo; rw [List.range_succ, List.filter_append]; simp [h]
theorem itTo_no {bid prices : List Int} {G : Int} {k : Nat} (h : gnF bid prices k ≠ G) : itTo bid prices G (k + 1) = itTo bid prices G k := by
 unfold itTo; rw [List.range_succ, List.filter_append]; simp [h]
theorem itTo_len (bid prices : List Int) (G : Int) (k : Nat) : (itTo bid prices G k).length ≤ k := by
 have := List.length_filter_le (fun k => decide (gnF bid prices k = G)) (List.range k)
 simpa [itTo] using this
theorem gnTo_bd {bid prices : List Int} (h : ∀ k, k < bid.length → -2000000 ≤ gnF bid prices k ∧ gnF bid prices k ≤ 1000000) : ∀ k, k ≤ bid.length → 0 ≤ gnTo bid prices k ∧ gnTo bid prices k ≤ 1000000
 | 0, _ => by unfold gnTo; simp [foldMax]
 | k + 1, hk => by
   have ih := gnTo_bd h k (by omega)
   have := h k (by omega)
   rw [gnTo_succ]; omega

def Of12 (bid prices : List Int) (w : World) (e : Ending) (w' : World) : Prop := ∃ v, e = .returned (.tuple #[v, .bool ((demOf bid prices).2 == 0), .int .i64 (demOf bid prices).2, .int .i64 0]) ∧ Own w' w.heap.size v (nats (demOf bid prices).1) ∧ Below w.heap.size w w'

set_option maxRecDepth 100000 in
set_option maxHeartbeats 4000000 in
theorem of12_yes (ba pa : Option Addr) (bn bc pn pc : Nat) (bid prices : List Int) (w : World) (hb : Ints w ba bn bc bid) (hp : Ints w pa pn pc prices) (h1 : 1 ≤ pn) (h8 : pn ≤ 8) (hpp : ∀ x, x ∈ prices → 0 ≤ x ∧ x ≤ 2000000)
   (hbid : bid = [] ∨ (bid.length = pn ∧ ∀ x, x ∈ bid → 0 ≤ x ∧ x ≤ 1000000)) :
   Calls Tryz.prog 207 #[.slice ba bn bc, .slice pa pn pc] w (Of12 bid prices w) := by
 have hbl := hb.len
 have hpl := hp.len
 have hbn : bn ≤ 8 := by
   rcases hbid with e | ⟨e, _⟩
   · rw [e] at hbl; simp at hbl; omega
   · omega
 have hbp : bn = 0 ∨ bn = pn := by
   rcases hbid with e | ⟨e, _⟩
   · left; rw [e] at hbl; simp at hbl; omega
   · right; omega
 have hgb : ∀ k, k < bid.length → -2000000 ≤ gnF bid prices k ∧ gnF bid prices k ≤ 1000000 := fun k hk => by
   rcases hbid with e | ⟨e, hx⟩
   · rw [e] at hk; simp at hk
   · have hbk : bid[k]? = some bid[k] := List.getElem?_eq_getElem hk
     have hpk : prices[k]? = some (prices[k]'(by omega)) := List.getElem?_eq_getElem (by omega)
     unfold gnF
     rw [List.getD_eq_getElem?_getD, hbk, List.getD_eq_getElem?_getD, hpk]
     have q1 := hx _ (List.mem_of_getElem? hbk)
     have q2 := hpp _ (List.mem_of_getElem? hpk)
     simp only [Option.getD_some]
     omega
 have hG0 := gnTo_bd hgb bid.length (Nat.le_refl _)
 have hPR := prices12_yes pa pn pc prices w hp h1 h8 hpp
 have HPR := Lib.hid hPR; clear hPR
 have hck : 0 < bn → vcheck bid pn = true := fun h => by
   rcases hbid with e | ⟨e, hx⟩
   · rw [e] at hbl; simp at hbl; omega
   · exact vcheck_of (by omega) (by omega) (by omega) hx
 have HCK := Lib.hid hck; clear hck
 have HGB := Lib.hid hgb; clear hgb
 have HB := Lib.hid hb; clear hb
 have HP := Lib.hid hp; clear hp hbid hpp
 have HBL := Lib.hid hbl; clear hbl
 have HPL := Lib.hid hpl; clear hpl
 unfold Of12
 rw [demOf_items, demOf_gain]
 rw [HBL.out] at hG0 ⊢
 obtain ⟨G, hG⟩ : ∃ G, G = gnTo bid prices bn := ⟨_, rfl⟩
 rw [← hG] at hG0 ⊢
 have HG := Lib.hid hG; clear hG
 have h04 : 0 < bn → Calls Tryz.prog 157 #[.slice ba bn bc, .int .i64 (pn : Int)] w fun e w' => e = .returned (.bool true) ∧ w = w' := fun h => by
   have := ref04_any ba bn bc pn bid w HB.out (by omega)
   rwa [HCK.out h] at this
 have H04 := Lib.hid h04; clear h04
 by_cases hpos : 0 < bn
 · have e1 : decide (0 < (bn : Int)) = true := by simp; omega
   have HC := Lib.hid (H04.out hpos)
   clear H04
   go_enter Tryz.func207, Tryz.ntmps207
   go_wp2_with fail
   refine HPR.out.mono ?_
   rintro e w1 ⟨rfl, rfl⟩
   go_wp2_with fail
   refine HC.out.mono ?_
   rintro e w1 ⟨rfl, rfl⟩
   have hbp' : bn = pn := by omega
   subst hbp'
   go_wp2_with fail
   go_loopg [8, 9] bn (fun g' s8 s9 wr => ∃ k : Nat, k + g' = bn ∧ s9 = .int .i64 k ∧ s8 = .int .i64 (gnTo bid prices k) ∧ Below w.heap.size w wr)
   case atStart => exact ⟨0, by omega, rfl, rfl, Below.refl _ _⟩
   case round =>
     obtain ⟨k, hk, rfl, rfl, hB⟩ := hrel
     have HK := Lib.hid hk; clear hk
     by_cases hlt : k < bn
     · obtain ⟨x, hx, _⟩ := HB.out.get hlt
       obtain ⟨y, hy, _⟩ := HP.out.get hlt
       obtain ⟨bb, bo, rfl⟩ := HB.out.addr (by omega)
       obtain ⟨pb, po, rfl⟩ := HP.out.addr (by omega)
       have cx := cell_step00 hB (HB.out.cell bb bo rfl k x hx)
       have cy := cell_step00 hB (HP.out.cell pb po rfl k y hy)
       have hgn : gnF bid prices k = x - y := by unfold gnF; rw [List.getD_eq_getElem?_getD, hx, List.getD_eq_getElem?_getD, hy]; rfl
       have hgb := HGB.out k (by rw [HBL.out]; exact hlt)
       rw [hgn] at hgb
       obtain ⟨hgb1, hgb2⟩ := hgb
       have hsu := gnTo_succ bid prices k
       rw [hgn] at hsu
       have HSU := Lib.hid hsu; clear hsu hgn
       obtain ⟨t, ht⟩ : ∃ t, t = gnTo bid prices k := ⟨_, rfl⟩
       rw [← ht] at HSU ⊢
       clear ht
       have HBW := Lib.hid hB; clear hB
       have i1 : (k : Int) < (bn : Int) := by omega
       have e3 : IntKind.i64.wrap (x - y) = x - y := IntWalk.i64_in _ (by omega)
       clear hx hy
       go_wp2_with fail
       go_quiet (fail)
       go_wp2_with fail
       all_goals
         go_roundg (gk - 1)
         case measure => have := HK.out; omega
         case rel => exact ⟨k + 1, by have := HK.out; omega, by go_num, by rw [HSU.out], below_drewN HBW.out _⟩
     · obtain rfl : k = bn := by have := HK.out; omega
       obtain ⟨w2, rfl⟩ : ∃ w2, w2 = wr := ⟨_, rfl⟩
       have HBW := Lib.hid hB; clear hB
       rw [← HG.out]
       go_wp2_with fail
       go_loopg [10, 11] k (fun g' s10 s11 wr => ∃ (j : Nat) (v : Value), j + g' = k ∧ s11 = .int .i64 j ∧ s10 = v ∧ Own wr w2.heap.size v (nats (itTo bid prices G j)) ∧ Below w2.heap.size w2 wr)
       case atStart => exact ⟨0, _, by omega, rfl, rfl, by simp [itTo, nats, Own, World.ownsRow], Below.refl _ _⟩
       case round =>
         obtain ⟨j, v, hj, rfl, hv, hO, hB⟩ := hrel
         replace hv := hv.symm
         subst hv
         have HJ := Lib.hid hj; clear hj
         have HO := Lib.hid hO; clear hO
         by_cases hjl : j < k
         · obtain ⟨x, hx, _⟩ := HB.out.get hjl
           obtain ⟨y, hy, _⟩ := HP.out.get hjl
           obtain ⟨bb, bo, rfl⟩ := HB.out.addr (by omega)
           obtain ⟨pb, po, rfl⟩ := HP.out.addr (by omega)
           have hBw := HBW.out.trans (hB.mono HBW.out.size)
           have cx := cell_step00 hBw (HB.out.cell bb bo rfl j x hx)
           have cy := cell_step00 hBw (HP.out.cell pb po rfl j y hy)
           have hgn : gnF bid prices j = x - y := by unfold gnF; rw [List.getD_eq_getElem?_getD, hx, List.getD_eq_getElem?_getD, hy]; rfl
           have hgb := HGB.out j (by rw [HBL.out]; exact hjl)
           rw [hgn] at hgb
           obtain ⟨hgb1, hgb2⟩ := hgb
           have HGN := Lib.hid hgn; clear hgn
           have HB2 := Lib.hid hB; clear hB hBw
           have i1 : (j : Int) < (k : Int) := by omega
           have e3 : IntKind.i64.wrap (x - y) = x - y := IntWalk.i64_in _ (by omega)
           clear hx hy
           by_cases hq : x - y = G
           · have e4 : (x - y == G) = true := by simpa using hq
             obtain ⟨zs, hzs⟩ : ∃ zs, zs = nats (itTo bid prices G j) := ⟨_, rfl⟩
             have hzl : zs.length ≤ j := by rw [hzs]; unfold nats; rw [List.length_map]; exact itTo_len _ _ _ _
             have hzn : nats (itTo bid prices G (j + 1)) = zs ++ [(j : Int)] := by rw [hzs, itTo_yes (by rw [HGN.out]; exact hq)]; simp [nats]
             rw [← hzs] at HO
             have HZN := Lib.hid hzn; clear hzn hzs
             have HZL := Lib.hid hzl; clear hzl
             have HQ := Lib.hid hq; clear hq
             go_wp2_with fail
             go_quiet (fail)
             have HB3 := Lib.hid (below_drewN HB2.out nq)
             have hO3 := HO.out.below (below_drewN (Below.refl wr.heap.size wr) nq) (Nat.le_refl _)
             obtain ⟨w4, hw4⟩ : ∃ w4, w4 = wr.drewN nq := ⟨_, rfl⟩
             rw [← hw4] at HB3 hO3 ⊢
             clear hw4 cx cy
             have HO3 := Lib.hid hO3; clear hO3
             go_wp2_with (at_builtin; refine app1 _ rfl _ _ rfl w2.heap.size _ zs rfl (HO3.out.alloc _) w4.heap.size 0 1 (j : Int) rfl (by simp [go_sem]) (by have := HZL.out; omega) (by have := HB3.out.size; simp; omega) ?_)
             intro g' cap' w' hown' hgr' hb'
             have HO4 := Lib.hid hown'; clear hown'
             have HB4 := Lib.hid ((HB3.out.alloc HB3.out.size (.cells #[.int .i64 (j : Int)] 3)).trans hb'); clear hb' hgr'
             go_wp2_with fail
             go_roundg (gk - 1)
             case measure => have := HJ.out; omega
             case rel => exact ⟨j + 1, _, by have := HJ.out; omega, by go_num, rfl, by rw [HZN.out]; exact HO4.out, HB4.out⟩
           · have e4 : (x - y == G) = false := by simpa using hq
             have hzn := itTo_no (bid := bid) (prices := prices) (G := G) (k := j) (by rw [HGN.out]; exact hq)
             have HZN := Lib.hid hzn; clear hzn
             have HQ := Lib.hid hq; clear hq
             go_wp2_with fail
             go_quiet (fail)
             go_wp2_with fail
             go_roundg (gk - 1)
             case measure => have := HJ.out; omega
             case rel => exact ⟨j + 1, _, by have := HJ.out; omega, by go_num, rfl, by rw [HZN.out]; exact HO.out.below (below_drewN (Below.refl _ _) _) (Nat.le_refl _), below_drewN HB2.out _⟩
         · obtain rfl : j = k := by have := HJ.out; omega
           have HB2 := Lib.hid hB; clear hB
           go_wp2_with fail
           refine bodyPost_ret (v := .tuple #[v, .bool (G == 0), .int .i64 G, .int .i64 0]) (by simp [results, Tryz.results207, go_sem]) rfl ?_
           exact ⟨_, rfl, Own.lower (show Own _ w2.heap.size _ (nats (itTo bid prices G j)) from HO.out) HBW.out.size, HBW.out.trans (HB2.out.mono HBW.out.size)⟩
 · obtain rfl : bn = 0 := by omega
   have e1 : decide (0 < ((0 : Nat) : Int)) = false := by simp
   have hbe : bid = [] := List.eq_nil_of_length_eq_zero HBL.out
   have hG00 : G = 0 := by rw [HG.out]; rfl
   subst hG00
   clear H04 HCK hG0
   go_enter Tryz.func207, Tryz.ntmps207
   go_wp2_with fail
   refine HPR.out.mono ?_
   rintro e w1 ⟨rfl, rfl⟩
   go_wp2_with fail
   go_loopg [8, 9] 0 (fun g' s8 s9 wr => g' = 0 ∧ s9 = .int .i64 0 ∧ s8 = .int .i64 0 ∧ wr = w)
   case atStart => exact ⟨rfl, rfl, rfl, rfl⟩
   case round =>
     obtain ⟨-, rfl, rfl, rfl⟩ := hrel
     go_wp2_with fail
     go_loopg [10, 11] 0 (fun g' s10 s11 w2 => g' = 0 ∧ s11 = .int .i64 0 ∧ s10 = .slice none 0 0 ∧ w2 = wr)
     case atStart => exact ⟨rfl, rfl, rfl, rfl⟩
     case round =>
       obtain ⟨-, rfl, rfl, rfl⟩ := hrel
       go_wp2_with fail
       refine bodyPost_ret (v := .tuple #[.slice none 0 0, .bool true, .int .i64 0, .int .i64 0]) (by simp [results, Tryz.results207, go_sem]) rfl ?_
       exact ⟨_, rfl, by simp [nats, Own, World.ownsRow], Below.refl _ _⟩
end Go.Proofs.YtkddkkcfpnndlaaGreatDoor

namespace Go.Proofs.YtkddkkcfpnndlaaGreatDoor
open Go.RowKit Go.Shelf

attribute [local go_sem] Oper.semAt_some
theorem infoBool : (Tryz.prog.info? 4).map (fun i => (i.zero, i.size, i.bytes)) = some (some (.bool false), 1, 1) := by kernel_rfl
theorem mkBools (c : Nat) (hc : c ≤ 1000000) (w : World) : (Instr.makeSlice 222 (.int .i64 (c : Int)) (.int .i64 (c : Int))).run Tryz.prog w = .ok (.slice (some ⟨w.heap.size, 0, none⟩) c c) (w.alloc (.cells (List.replicate c (Value.bool false)).toArray 4)) := by
 obtain ⟨i0, hi, hz0, hz1, hz2⟩ := info_parts infoBool
 have h := run_make (P := Tryz.prog) w 222 4 i0 _ Tryz.underlying222 hi hz0 .i64 .i64 c c (by omega) (by omega) (by rw [hz2]; omega) (by omega)
 rw [hz1] at h
 have e : madeCells (Value.bool false).cells (c * 1) = (List.replicate c (Value.bool false)).toArray := by
   apply Array.ext'
   rw [show (Value.bool false).cells = #[.bool false] from rfl, toList_madeCells_one]
   simp
 rw [Int.toNat_natCast, e] at h
 exact h

structure Filled (w : World) (B lo n : Nat) (xss : List (List Int)) (vals : List Value) : Prop where
 row : VRow w B 25 vals
 len : vals.length = n
 blt : B < lo
 done : ∀ (j : Nat) (xs : List Int), xss[j]? = some xs → ∃ (a : Option Addr) (c : Nat), vals[j]? = some (Value.slice a xs.length c) ∧ Ints w a xs.length c xs ∧ (0 < xs.length → ∀ b o : Nat, a = some ⟨b, o, none⟩ → lo ≤ b)
theorem Filled.under {w : World} {B lo n : Nat} {xss : List (List Int)} {vals : List Value} (h : Filled w B lo n xss vals) {p : Addr} (hp : p.block < lo) (hB : p.block ≠ B) (u : Value) : Filled (w.setCell p u) B lo n xss vals := by
 refine ⟨?_, h.len, h.blt, fun j xs hj => ?_⟩
 · unfold VRow; rw [heap_setCell_other w p B u (fun e => hB e.symm)]; exact h.row
 · obtain ⟨a, c, h1, h2, h3⟩ := h.done j xs hj
   exact ⟨a, c, h1, h2.far (fun hn b o e => by have := h3 hn b o e; omega) u, h3⟩
theorem Filled.below {w w' : World} {B lo n B' : Nat} {xss : List (List Int)} {vals : List Value} (h : Filled w B lo n xss vals) (hb : Below B' w w') (ht : w.heap.size ≤ B') : Filled w' B lo n xss vals := by
 refine ⟨h.row.below hb (Nat.lt_of_lt_of_le h.row.lt ht), h.len, h.blt, fun j xs hj => ?_⟩
 obtain ⟨a, c, h1, h2, h3⟩ := h.done j xs hj
 exact ⟨a, c, h1, h2.below hb ht, h3⟩
theorem Filled.grown {w w' : World} {B lo n top : Nat} {xss : List (List Int)} {vals : List Value} (h : Filled w B lo n xss vals) (hb : Below top w w') (hB : B < top) (ht : ∀ (j : Nat) (xs : List Int), xss[j]? = some xs → ∀ a c, vals[j]? = some (Value.slice a xs.length c) → 0 < xs.length → ∀ b o : Nat, a = some ⟨b, o, none⟩ → b < top) : Filled w' B lo n xss vals := by
 refine ⟨h.row.below hb hB, h.len, h.blt, fun j xs hj => ?_⟩
 obtain ⟨a, c, h1, h2, h3⟩ := h.done j xs hj
 exact ⟨a, c, h1, h2.upTo hb (fun hn b o e => ht j xs hj a c h1 hn b o e), h3⟩
theorem Filled.put {w : World} {B lo n : Nat} {xss : List (List Int)} {vals : List Value} (h : Filled w B lo n xss vals) {i : Nat} (hi : i = xss.length) (hn : i < n) {a : Option Addr} {c : Nat} {xs : List Int} (hI : Ints w a xs.length c xs) (hlo : 0 < xs.length → ∀ b o : Nat, a = some ⟨b, o, none⟩ → lo ≤ b) :
   Filled (w.setCell ⟨B, i, none⟩ (.slice a xs.length c)) B lo n (xss ++ [xs]) (vals.set i (.slice a xs.length c)) := by
 refine ⟨h.row.set i _, by rw [List.length_set]; exact h.len, h.blt, fun j ys hj => ?_⟩
 have hblt := h.blt
 have hl := h.len
 by_cases e : j < xss.length
 · rw [List.getElem?_append_left e] at hj
   obtain ⟨a', c', h1, h2, h3⟩ := h.done j ys hj
   exact ⟨a', c', by rw [List.getElem?_set_ne (by omega)]; exact h1, h2.far (fun hn b o e => by have := h3 hn b o e; show b ≠ B; omega) _, h3⟩
 · have : j = xss.length := by have := (List.getElem?_eq_some_iff.1 hj).1; simp at this; omega
   subst this
   rw [List.getElem?_append_right (Nat.le_refl _), Nat.sub_self] at hj
   cases hj
   exact ⟨a, c, by rw [hi, List.getElem?_set_self (by omega)], hI.far (fun hn b o e => by have := hlo hn b o e; show b ≠ B; omega) _, hlo⟩
theorem Filled.clear {w : World} {B lo n : Nat} {xss : List (List Int)} {vals : List Value} (h : Filled w B lo n xss vals) {i : Nat} (hn : i < n) : Filled (w.setCell ⟨B, i, none⟩ (.slice none 0 0)) B lo n (xss.set i []) (vals.set i (.slice none 0 0)) := by
 refine ⟨h.row.set i _, by rw [List.length_set]; exact h.len, h.blt, fun j ys hj => ?_⟩
 have hblt := h.blt
 have hl := h.len
 by_cases e : i = j
 · subst e
   have hlt : i < xss.length := by have := (List.getElem?_eq_some_iff.1 hj).1; simpa using this
   rw [List.getElem?_set_self hlt] at hj
   cases hj
   exact ⟨none, 0, by rw [List.getElem?_set_self (by omega)]; rfl, Ints.empty _ _ _, fun h => by simp at h⟩
 · rw [List.getElem?_set_ne e] at hj
   obtain ⟨a', c', h1, h2, h3⟩ := h.done j ys hj
   exact ⟨a', c', by rw [List.getElem?_set_ne e]; exact h1, h2.far (fun hn b o e => by have := h3 hn b o e; show b ≠ B; omega) _, h3⟩
theorem Filled.rows {w : World} {B lo n : Nat} {xss : List (List Int)} {vals : List Value} (h : Filled w B lo n xss vals) (hn : xss.length = n) (hbig : n ≤ 4611686018427387904) : Rows w (some ⟨B, 0, none⟩) n n xss := by
 have := h.row.rows (xss := xss) (by omega) fun j xs hj => by
   obtain ⟨a, c, h1, h2, _⟩ := h.done j xs hj
   exact ⟨a, xs.length, c, h1, h2⟩
 rwa [hn] at this

def demItems (m : Mkt) (prices : List Int) : List (List Int) := m.bids.map fun b => nats (demOf b prices).1
def demNone (m : Mkt) (prices : List Int) : List Value := m.bids.map fun b => .bool ((demOf b prices).2 == 0)

theorem two_a (w2 : World) (bn : Nat) : Filled ((w2.alloc (.cells (Array.replicate bn (Value.slice none 0 0)) 25)).alloc (.cells (Array.replicate bn (Value.bool false)) 4)).drew w2.heap.size (w2.heap.size + 2) bn [] (List.replicate bn (.slice none 0 0)) ∧
   VRow ((w2.alloc (.cells (Array.replicate bn (Value.slice none 0 0)) 25)).alloc (.cells (Array.replicate bn (Value.bool false)) 4)).drew (w2.heap.size + 1) 4 (List.replicate bn (.bool false)) ∧
   Below w2.heap.size w2 ((w2.alloc (.cells (Array.replicate bn (Value.slice none 0 0)) 25)).alloc (.cells (Array.replicate bn (Value.bool false)) 4)).drew ∧ ((w2.alloc (.cells (Array.replicate bn (Value.slice none 0 0)) 25)).alloc (.cells (Array.replicate bn (Value.bool false)) 4)).drew.heap.size = w2.heap.size + 2 := by
 rw [← List.toArray_replicate, ← List.toArray_replicate]
 refine ⟨⟨((VRow.new w2 _ _).alloc _).drew, by simp, by omega, fun j xs hj => by simp at hj⟩, ?_, (((Below.refl _ _).alloc (Nat.le_refl _) _).alloc (by simp) _).drew, by simp⟩
 have := VRow.new (w2.alloc (.cells (List.replicate bn (Value.slice none 0 0)).toArray 25)) 4 (List.replicate bn (.bool false))
 rw [World.size_alloc] at this
 exact this.drew
theorem two_b (w2 : World) (bn : Nat) : Filled ((w2.alloc (.cells (Array.replicate bn (Value.bool false)) 4)).alloc (.cells (Array.replicate bn (Value.slice none 0 0)) 25)).drew (w2.heap.size + 1) (w2.heap.size + 2) bn [] (List.replicate bn (.slice none 0 0)) ∧
   VRow ((w2.alloc (.cells (Array.replicate bn (Value.bool false)) 4)).alloc (.cells (Array.replicate bn (Value.slice none 0 0)) 25)).drew w2.heap.size 4 (List.replicate bn (.bool false)) ∧
   Below w2.heap.size w2 ((w2.alloc (.cells (Array.replicate bn (Value.bool false)) 4)).alloc (.cells (Array.replicate bn (Value.slice none 0 0)) 25)).drew ∧ ((w2.alloc (.cells (Array.replicate bn (Value.bool false)) 4)).alloc (.cells (Array.replicate bn (Value.slice none 0 0)) 25)).drew.heap.size = w2.heap.size + 2 := by
 rw [← List.toArray_replicate, ← List.toArray_replicate]
 refine ⟨⟨?_, by simp, by omega, fun j xs hj => by simp at hj⟩, ((VRow.new w2 _ _).alloc _).drew, (((Below.refl _ _).alloc (Nat.le_refl _) _).alloc (by simp) _).drew, by simp⟩
 have := VRow.new (w2.alloc (.cells (List.replicate bn (Value.bool false)).toArray 4)) 25 (List.replicate bn (.slice none 0 0))
 rw [World.size_alloc] at this
 exact this.drew
structure AllAt (w : World) (ra ba oa : Option Addr) (rn rc bn bc on oc : Nat) (m : Mkt) (prices : List Int) (B1 B2 lo i : Nat) (vals : List Value) (wr : World) : Prop where
 fill : Filled wr B1 lo bn ((demItems m prices).take i) vals
 none' : VRow wr B2 4 ((demNone m prices).take i ++ List.replicate (bn - i) (.bool false))
 b2 : B2 < lo
 ne : B1 ≠ B2
 b1l : w.heap.size + 1 ≤ B1
 b2l : w.heap.size + 1 ≤ B2
 lo' : lo ≤ wr.heap.size
 mw' : Below (w.heap.size + 1) (mw w ra ba oa rn rc bn bc on oc) wr

theorem set_none {α : Type} (l : List α) (z x : α) {i n : Nat} (hi : i < n) (hl : l.length = n) (hx : l[i]? = some x) : (l.take i ++ List.replicate (n - i) z).set i x = l.take (i + 1) ++ List.replicate (n - (i + 1)) z := by
 have h1 : (l.take i).length = i := by rw [List.length_take]; omega
 rw [List.set_append_right _ _ (by omega), h1, Nat.sub_self, List.take_add_one, hx, List.append_assoc]
 congr 1
 obtain ⟨d, hd⟩ : ∃ d, n - i = d + 1 := ⟨n - i - 1, by omega⟩
 rw [hd, show n - (i + 1) = d from by omega]
 rfl
theorem AllAt.next {w : World} {ra ba oa : Option Addr} {rn rc bn bc on oc : Nat} {m : Mkt} {prices : List Int} {B1 B2 lo i : Nat} {vals : List Value} {wr w3 : World} (h : AllAt w ra ba oa rn rc bn bc on oc m prices B1 B2 lo i vals wr) (hi : i < bn) (hl : m.bids.length = bn) {bid : List Int} (hb : m.bids[i]? = some bid)
   (h3 : Below wr.heap.size wr w3) {a : Option Addr} {n : Nat} (hI : Ints w3 a n n (nats (demOf bid prices).1)) (hlo : ∀ b o, a = some ⟨b, o, none⟩ → wr.heap.size ≤ b) :
   AllAt w ra ba oa rn rc bn bc on oc m prices B1 B2 lo (i + 1) (vals.set i (.slice a n n)) ((w3.setCell ⟨B1, i, none⟩ (.slice a n n)).setCell ⟨B2, i, none⟩ (.bool ((demOf bid prices).2 == 0))) := by
 have hn := hI.len
 subst hn
 have hdl : (demItems m prices).length = bn := by unfold demItems; rw [List.length_map, hl]
 have hnl : (demNone m prices).length = bn := by unfold demNone; rw [List.length_map, hl]
 have hdi : (demItems m prices)[i]? = some (nats (demOf bid prices).1) := by unfold demItems; rw [List.getElem?_map, hb]; rfl
 have hni : (demNone m prices)[i]? = some (.bool ((demOf bid prices).2 == 0)) := by unfold demNone; rw [List.getElem?_map, hb]; rfl
 have hB1 := h.fill.row.lt
 have hB2 := h.none'.lt
 have hs := h3.size
 have hlo' := h.lo'
 have hb2 := h.b2
 have hb1l := h.b1l
 have hb2l := h.b2l
 have hfp := (h.fill.below h3 (Nat.le_refl _)).put (i := i) (by rw [List.length_take, hdl]; omega) hi hI (fun _ b o e => by have := hlo b o e; omega)
 refine ⟨?_, ?_, h.b2, h.ne, h.b1l, h.b2l, by simp; omega, ?_⟩
 · rw [List.take_add_one, hdi]
   exact hfp.under (by show B2 < lo; omega) (by show B2 ≠ B1; exact fun e => h.ne e.symm) _
 · rw [← set_none (demNone m prices) (.bool false) _ hi hnl hni]
   exact ((h.none'.below h3 hB2).other (by show B2 ≠ B1; exact fun e => h.ne e.symm) _).set i _
 · exact (((h.mw'.trans (h3.mono (by omega))).setCell (p := ⟨B1, i, none⟩) (by show _ ≤ B1; omega) _).setCell (p := ⟨B2, i, none⟩) (by show _ ≤ B2; omega) _)

set_option maxRecDepth 100000 in
set_option maxHeartbeats 4000000 in
theorem All_dem (ra ba oa pa : Option Addr) (rn rc bn bc on oc pn pc : Nat) (m : Mkt) (prices : List Int) (w : World) (hm : MktAt w ra ba oa rn rc bn bc on oc m) (hc : mcheck m = true) (hp : Ints w pa pn pc prices) (hpn : pn = rn) (hpp : ∀ x, x ∈ prices → 0 ≤ x ∧ x ≤ 2000000) :
   Calls Tryz.prog 203 #[.agg #[.slice ra rn rc, .slice ba bn bc, .slice oa on oc], .slice pa pn pc] w fun e w' => ∃ B1 B2 vals, e = .returned (.tuple #[.slice (some ⟨B1, 0, none⟩) bn bn, .slice (some ⟨B2, 0, none⟩) bn bn, .int .i64 0]) ∧
     (∃ lo, Filled w' B1 lo bn (demItems m prices) vals ∧ B2 < lo ∧ lo ≤ w'.heap.size) ∧ VRow w' B2 4 (demNone m prices) ∧ B1 ≠ B2 ∧ w.heap.size ≤ B1 ∧ w.heap.size ≤ B2 ∧ Below w.heap.size w w' := by
 subst hpn
 have hok := mcheck_ok hc
 have hrl := hm.res.len
 have hbl := hm.bids.len
 have hn1 := hok.n1
 have hn8 := hok.n8
 have hm1 := hok.m1
 have hm8 := hok.m8
 rw [hrl] at hn1 hn8
 rw [hbl] at hm1 hm8
 have HRL := Lib.hid hrl; clear hrl
 have HBL := Lib.hid hbl; clear hbl
 have HOK := Lib.hid hok; clear hok
 have HC := Lib.hid hc; clear hc
 have HPP := Lib.hid hpp; clear hpp
 have HB0 := Lib.hid (mw_start w ra ba oa pn rc bn bc on oc)
 have HM := Lib.hid hm; clear hm
 have HP := Lib.hid hp; clear hp
 have hmA := HM.out.below (mw_kept HB0.out).2.2.2.2 (Nat.le_refl _)
 have HK := Lib.hid (mcheck_any ra ba oa pn rc bn bc on oc m (mw w ra ba oa pn rc bn bc on oc) hmA.res hmA.bids hmA.ord)
 clear hmA
 obtain ⟨bb, bo, rfl⟩ := HM.out.bids.addr (by omega)
 obtain ⟨rb, ro, rfl⟩ := HM.out.res.addr (by omega)
 have hmkB := mkRows bn (by omega)
 have hmkR := mkBools bn (by omega)
 go_enter Tryz.func203, Tryz.ntmps203
 go_wp2_with fail
 refine HK.out.mono ?_
 rw [HC.out]
 rintro e w1 ⟨rfl, hb⟩
 have HB1 := Lib.hid (mw_below' HB0.out hb); clear hb HK
 obtain ⟨c0, c1, c2, hs1, hbw1⟩ := mw_kept HB1.out
 have HMY := Lib.hid (may_yes pa pn pc prices w1 (HP.out.below hbw1 (Nat.le_refl _)) hn1 hn8 HPP.out)
 have HBW1 := Lib.hid hbw1; clear hbw1
 go_wp2_with fail
 refine HMY.out.mono ?_
 rintro e w2 ⟨rfl, hb2⟩
 have HB2 := Lib.hid (mw_below' HB1.out hb2); clear hb2 HMY
 obtain ⟨c0', c1', c2', hs2, hbw2⟩ := mw_kept HB2.out
 have HBW2 := Lib.hid hbw2; clear hbw2
 clear c0 c1 c2
 go_wp2_with fail
 go_region
 case' _ =>
   have hat : AllAt w (some ⟨rb, ro, none⟩) (some ⟨bb, bo, none⟩) oa pn rc bn bc on oc m prices w2.heap.size (w2.heap.size + 1) (w2.heap.size + 2) 0 (List.replicate bn (.slice none 0 0)) ((w2.alloc (.cells (Array.replicate bn (Value.slice none 0 0)) 25)).alloc (.cells (Array.replicate bn (Value.bool false)) 4)).drew := by
     obtain ⟨h1, h2, h3, h4⟩ := two_a w2 bn
     exact ⟨h1, h2, by omega, by omega, by omega, by omega, by omega, mw_below HB2.out h3 (by omega)⟩
   obtain ⟨X, hX⟩ : ∃ X, X = ((w2.alloc (.cells (Array.replicate bn (Value.slice none 0 0)) 25)).alloc (.cells (Array.replicate bn (Value.bool false)) 4)).drew := ⟨_, rfl⟩
   rw [← hX] at hat ⊢
   obtain ⟨lo, hlo⟩ : ∃ B, B = w2.heap.size + 2 := ⟨_, rfl⟩
   rw [← hlo] at hat
   obtain ⟨B2, hB2⟩ : ∃ B, B = w2.heap.size + 1 := ⟨_, rfl⟩
   rw [← hB2] at hat ⊢
   obtain ⟨B1, hB1⟩ : ∃ B, B = w2.heap.size := ⟨_, rfl⟩
   rw [← hB1] at hat ⊢
   clear hX hlo hB2 hB1
 rotate_left
 case' _ =>
   have hat : AllAt w (some ⟨rb, ro, none⟩) (some ⟨bb, bo, none⟩) oa pn rc bn bc on oc m prices (w2.heap.size + 1) w2.heap.size (w2.heap.size + 2) 0 (List.replicate bn (.slice none 0 0)) ((w2.alloc (.cells (Array.replicate bn (Value.bool false)) 4)).alloc (.cells (Array.replicate bn (Value.slice none 0 0)) 25)).drew := by
     obtain ⟨h1, h2, h3, h4⟩ := two_b w2 bn
     exact ⟨h1, h2, by omega, by omega, by omega, by omega, by omega, mw_below HB2.out h3 (by omega)⟩
   obtain ⟨X, hX⟩ : ∃ X, X = ((w2.alloc (.cells (Array.replicate bn (Value.bool false)) 4)).alloc (.cells (Array.replicate bn (Value.slice none 0 0)) 25)).drew := ⟨_, rfl⟩
   rw [← hX] at hat ⊢
   obtain ⟨lo, hlo⟩ : ∃ B, B = w2.heap.size + 2 := ⟨_, rfl⟩
   rw [← hlo] at hat
   obtain ⟨B1, hB1⟩ : ∃ B, B = w2.heap.size + 1 := ⟨_, rfl⟩
   rw [← hB1] at hat ⊢
   obtain ⟨B2, hB2⟩ : ∃ B, B = w2.heap.size := ⟨_, rfl⟩
   rw [← hB2] at hat ⊢
   clear hX hlo hB2 hB1
 all_goals
   obtain ⟨d0, d1, d2, hs3, hbw3⟩ := mw_kept hat.mw'
   clear c0' c1' c2' hbw3
   have HAT := Lib.hid hat; clear hat
   go_wp2_with fail
   go_loopg [6, 31] bn (fun g' s6 s31 wr => ∃ (i : Nat) (vals : List Value), i + g' = bn ∧ s6 = .int .i64 0 ∧ s31 = .int .i64 i ∧ AllAt w (some ⟨rb, ro, none⟩) (some ⟨bb, bo, none⟩) oa pn rc bn bc on oc m prices B1 B2 lo i vals wr)
   case atStart => exact ⟨0, _, by omega, rfl, rfl, HAT.out⟩
   case round =>
     clear d0 d1 d2
     obtain ⟨i, vals, hi, rfl, rfl, hat⟩ := hrel
     obtain ⟨d0, d1, d2, hs4, hbw⟩ := mw_kept hat.mw'
     have HI := Lib.hid hi; clear hi
     by_cases hlt : i < bn
     · obtain ⟨bid, hbid⟩ := HM.out.bids.get hlt
       obtain ⟨la, ln, lc, hcl, hli⟩ := HM.out.bids.row hbw (Nat.le_refl _) (b := bb) (o := bo) (k := i) rfl hbid
       have hbk := HOK.out.bid bid (List.mem_of_getElem? hbid)
       rw [HRL.out] at hbk
       have HOF := Lib.hid (Of_yes la pa ln lc pn pc bid prices wr (hli.below hbw (Nat.le_refl _)) (HP.out.below hbw (Nat.le_refl _)) hn1 hn8 HPP.out hbk)
       have HAT2 := Lib.hid hat; clear hat
       have HBID := Lib.hid hbid; clear hbid hli hbk hbw
       go_wp2_with fail
       refine HOF.out.mono ?_
       rintro e w3 ⟨a3, n3, rfl, hI3, hlo3, hb3⟩
       have hF3 := HAT2.out.fill.below hb3 (Nat.le_refl _)
       have hV3 := HAT2.out.none'.below hb3 HAT2.out.none'.lt
       have hvl := hF3.len
       have hf1 := hF3.row.frozen i
       obtain ⟨v0, hv0⟩ : ∃ v0, vals[i]? = some v0 := ⟨_, List.getElem?_eq_getElem (by omega)⟩
       have hk1 := hF3.row.cell hv0
       have hV4 := hV3.other (a := ⟨B1, i, none⟩) (by show B2 ≠ B1; exact fun e => HAT2.out.ne e.symm) (.slice a3 n3 n3)
       have hf2 := hV4.frozen i
       have hk2 := hV4.cell (k := i) (v := .bool false) (by
         rw [List.getElem?_append_right (by rw [List.length_take]; omega)]
         rw [List.length_take, List.getElem?_replicate, if_pos (by unfold demNone; rw [List.length_map, HBL.out]; omega)])
       have hnx := HAT2.out.next hlt HBL.out HBID.out hb3 hI3 hlo3
       have HNX := Lib.hid hnx; clear hnx hF3 hV3 hV4 hI3 hlo3 hb3 hvl hv0
       go_wp2_with fail
       go_roundg (gk - 1)
       case measure => have := HI.out; omega
       case rel => exact ⟨i + 1, _, by have := HI.out; omega, rfl, by go_num, HNX.out⟩
     · obtain rfl : i = bn := by have := HI.out; omega
       have HAT2 := Lib.hid hat; clear hat
       have HBW := Lib.hid hbw; clear hbw
       go_wp2_with fail
       go_ret3
       have hdl : (demItems m prices).length = i := by unfold demItems; rw [List.length_map, HBL.out]
       have hnl : (demNone m prices).length = i := by unfold demNone; rw [List.length_map, HBL.out]
       have h1 := HAT2.out.fill
       have h2 := HAT2.out.none'
       rw [List.take_of_length_le (by omega)] at h1 h2
       rw [Nat.sub_self] at h2
       refine ⟨B1, B2, vals, rfl, ⟨lo, h1, HAT2.out.b2, HAT2.out.lo'⟩, by simpa using h2, HAT2.out.ne, by have := HAT2.out.b1l; omega, by have := HAT2.out.b2l; omega, HBW.out⟩
end Go.Proofs.YtkddkkcfpnndlaaGreatDoor
