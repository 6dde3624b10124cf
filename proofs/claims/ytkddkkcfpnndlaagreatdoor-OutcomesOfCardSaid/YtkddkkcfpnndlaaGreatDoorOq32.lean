/- Walks: the reference's forests: does an outcome fit? would a bidder as well have an item? Walks: the reference's markets: what each gains. -/
import Derived.Test.YtkddkkcfpnndlaaGreatDoorOq26
import Derived.Test.YtkddkkcfpnndlaaGreatDoorOq11
import Derived.Test.YtkddkkcfpnndlaaGreatDoorOq02
import Derived.Test.YtkddkkcfpnndlaaGreatDoorOq31
import Derived.Test.YtkddkkcfpnndlaaGreatDoorOq16
import Derived.Test.YtkddkkcfpnndlaaGreatDoorOq13
namespace Go.Proofs.YtkddkkcfpnndlaaGreatDoor
open Go.RowKit Sale

structure Short (rn bn on : Nat) (m : Mkt) : Prop where
 r : rn ≤ 17592186044416
 b : bn ≤ 17592186044416
 o : on ≤ 17592186044416
 x : ∀ xs, xs ∈ m.bids → xs.length ≤ 17592186044416

end Go.Proofs.YtkddkkcfpnndlaaGreatDoor

namespace Go.Proofs.YtkddkkcfpnndlaaGreatDoor
open Go.RowKit Sale

theorem short_of {w : World} {ra ba oa : Option Addr} {rn rc bn bc on oc : Nat} {m : Mkt} (h : MOk m) (hm : MktAt w ra ba oa rn rc bn bc on oc m) : Short rn bn on m := by
 have hrl := hm.res.len
 have hbl := hm.bids.len
 have hol := hm.ord.len
 have hn8 := h.n8
 have hm8 := h.m8
 have ho8 := (isOrd_counts.1 h.ord).1
 refine ⟨by omega, by omega, by omega, fun xs hx => ?_⟩
 rcases h.bid xs hx with e | ⟨e, _⟩
 · rw [e]; simp
 · omega

set_option maxRecDepth 100000 in
set_option maxHeartbeats 4000000 in
theorem gains05_yes (ra ba oa : Option Addr) (rn rc bn bc on oc : Nat) (m : Mkt) (w : World) (hm : MktAt w ra ba oa rn rc bn bc on oc m) (hc : mcheck m = true) :
   Calls Tryz.prog 104 #[.agg #[.slice ra rn rc, .slice ba bn bc, .slice oa on oc]] w fun e w' => ∃ v, e = .returned (.tuple #[v, .int .i64 0]) ∧ ORows w' w.heap.size v (gainsM m) ∧ Below w.heap.size w w' := by
 have hok := mcheck_ok hc
 have hrl := hm.res.len
 have hbl := hm.bids.len
 have hol := hm.ord.len
 have hn1 := hok.n1
 have hn8 := hok.n8
 have hm1 := hok.m1
 have hm8 := hok.m8
 have ho8 : on = bn := by
   have := (isOrd_counts.1 hok.ord).1; omega
 subst ho8
 rw [hrl] at hn1 hn8
 rw [hbl] at hm1 hm8
 have HXX := Lib.hid (short_of hok hm).x
 have HRL := Lib.hid hrl; clear hrl
 have HBL := Lib.hid hbl; clear hbl
 have HOL := Lib.hid hol; clear hol
 have HOK := Lib.hid hok; clear hok
 have HC := Lib.hid hc; clear hc
 have HM := Lib.hid (mw_start w ra ba oa rn rc on bc on oc)
 obtain ⟨c0, c1, c2, hs, hbw⟩ := mw_kept HM.out
 have hma := hm.below hbw (Nat.le_refl _)
 obtain ⟨w1, hw1⟩ : ∃ w1, w1 = mw w ra ba oa rn rc on bc on oc := ⟨_, rfl⟩
 rw [← hw1] at c0 c1 c2 hma hbw
 have HM1 := Lib.hid hma; clear hma
 have HBW := Lib.hid hbw; clear hbw
 have hw1' : w.alloc (.cells #[.slice ra rn rc, .slice ba on bc, .slice oa on oc] 57) = w1 := hw1.symm
 clear hw1 hm hs HM
 go_enter Tryz.func104, Tryz.ntmps104
 go_wp2_with fail
 try rw [hw1']
 clear hw1'
 refine (ref05_any ra ba oa rn rc on bc on oc m w1 HM1.out (by omega) (by omega) (by omega) HXX.out).mono ?_
 rw [HC.out]
 rintro e w2 ⟨rfl, hb⟩
 have HB2 := Lib.hid (HBW.out.trans (hb.mono HBW.out.size))
 have c0 := cell_st hb c0
 have c1 := cell_st hb c1
 have HM2 := Lib.hid (HM1.out.below hb (Nat.le_refl _))
 clear hb c2 HM1 HBW
 go_wp2_with fail
 go_loopg [4, 5, 6, 7] on (fun g' s4 s5 s6 s7 wr => ∃ (k : Nat) (v4 : Value), k + g' = on ∧ s5 = .int .i64 k ∧ s4 = v4 ∧ ORows wr w2.heap.size v4 ((gainsM m).take k) ∧ Below w2.heap.size w2 wr)
 case atStart => exact ⟨0, _, by omega, rfl, rfl, ORows.nil _ _, Below.refl _ _⟩
 case round =>
   obtain ⟨k, v4, hk, rfl, hv4, hO, hB⟩ := hrel
   replace hv4 := hv4.symm
   subst hv4
   obtain ⟨w3, rfl⟩ : ∃ w3, w3 = wr := ⟨_, rfl⟩
   have HK := Lib.hid hk; clear hk
   have HO := Lib.hid hO; clear hO
   have hbs := hB.size
   have hbs2 := HB2.out.size
   have c0w := cell_st hB c0
   have c1w := cell_st hB c1
   have HM3 := Lib.hid (HM2.out.below hB (Nat.le_refl _))
   by_cases hlt : k < on
   · obtain ⟨bid, hbid⟩ := HM3.out.bids.get hlt
     obtain ⟨bb, bo, rfl⟩ := HM3.out.bids.addr (by omega)
     obtain ⟨la, ln, lc, hcl, hli⟩ := HM3.out.bids.cell bb bo rfl k bid hbid
     have hll := hli.len
     have hbk := HOK.out.bid bid (List.mem_of_getElem? hbid)
     have hgm : (gainsM m).take (k + 1) = (gainsM m).take k ++ [gainRow m.res bid] := by
       rw [List.take_add_one]; simp [gainsM, hbid]
     have htk : ((gainsM m).take k).length = k := by rw [List.length_take, gainsM_length, HBL.out]; omega
     have HGM := Lib.hid hgm; clear hgm
     have HTK := Lib.hid htk; clear htk
     have HBK := Lib.hid hbk; clear hbk
     have HBID := Lib.hid hbid; clear hbid
     have HLI := Lib.hid hli; clear hli
     have HLL := Lib.hid hll; clear hll
     have HB := Lib.hid hB; clear hB
     have i1 : (k : Int) < (on : Int) := by omega
     obtain ⟨gO, hgO⟩ : ∃ n, n = gk - 1 := ⟨_, rfl⟩
     have HGO := Lib.hid hgO; clear hgO
     go_wp2_with fail
     go_loopg [6, 7] rn (fun g' s6 s7 wr => ∃ (j : Nat) (v6 : Value), j + g' = rn ∧ s7 = .int .i64 j ∧ s6 = v6 ∧ Own wr w3.heap.size v6 ((gainRow m.res bid).take j) ∧ Below w3.heap.size w3 wr)
     case atStart => exact ⟨0, _, by omega, rfl, rfl, by simp [Own, World.ownsRow], Below.refl _ _⟩
     case round =>
       obtain ⟨j, v6, hj, rfl, hv6, hOw, hB2⟩ := hrel
       replace hv6 := hv6.symm
       subst hv6
       have HJ := Lib.hid hj; clear hj
       have HOW := Lib.hid hOw; clear hOw
       have hbs3 := hB2.size
       have c0v := cell_st hB2 c0w
       have c1v := cell_st hB2 c1w
       have clv := cell_st hB2 hcl
       by_cases hjl : j < rn
       · obtain ⟨x, hx, _⟩ := HM3.out.res.get hjl
         obtain ⟨rb, ro, rfl⟩ := HM3.out.res.addr (by omega)
         have cx := cell_st hB2 (HM3.out.res.cell rb ro rfl j x hx)
         have hx6 := HOK.out.res x (List.mem_of_getElem? hx)
         have hgr := gainRow_get (bid := bid) (show j < m.res.length by rw [HRL.out]; exact hjl)
         rw [List.getD_eq_getElem?_getD (l := m.res), hx, Option.getD_some] at hgr
         obtain ⟨zs, hzs⟩ : ∃ zs, zs = (gainRow m.res bid).take j := ⟨_, rfl⟩
         have hzl : zs.length = j := by rw [hzs, List.length_take, gainRow_length, HRL.out]; omega
         rw [← hzs] at HOW
         have hzn : ∀ y, (gainRow m.res bid)[j]? = some y → (gainRow m.res bid).take (j + 1) = zs ++ [y] := fun y hy => by rw [List.take_add_one, hy, ← hzs]; rfl
         have HZN := Lib.hid hzn; clear hzn hzs
         have HZL := Lib.hid hzl; clear hzl
         have i2 : (j : Int) < (rn : Int) := by omega
         have HX := Lib.hid hx; clear hx
         by_cases hl0 : ln = 0
         · subst hl0
           have hbe : bid = [] := List.eq_nil_of_length_eq_zero HLL.out
           rw [if_pos hbe] at hgr
           have HGR := Lib.hid (HZN.out _ hgr); clear hgr hbe
           have HB2 := Lib.hid hB2; clear hB2 cx
           go_wp2_with (at_builtin; refine app1 _ rfl _ _ rfl w3.heap.size _ zs rfl (HOW.out.alloc _) wr.heap.size 0 1 (-1) rfl (by simp [go_sem]) (by rw [HZL.out]; omega) (by simp; omega) ?_)
           intro g' cap' w' hown' hgr' hb'
           have HO3 := Lib.hid hown'; clear hown'
           have HB3 := Lib.hid ((HB2.out.alloc HB2.out.size (.cells #[.int .i64 (-1)] 3)).trans hb'); clear hb' hgr'
           go_wp2_with fail
           go_roundg (gk - 1)
           case measure => have := HJ.out; omega
           case rel => exact ⟨j + 1, _, by have := HJ.out; omega, by go_num, rfl, by rw [HGR.out]; exact HO3.out, HB3.out⟩
         · have hne : bid ≠ [] := fun e => hl0 (by rw [← HLL.out, e]; rfl)
           rw [if_neg hne] at hgr
           obtain ⟨hbl', hb6⟩ := HBK.out.resolve_left hne
           have hjb : j < ln := by have := HLL.out; have := HRL.out; omega
           obtain ⟨y, hy, _⟩ := HLI.out.get hjb
           obtain ⟨lb, lo, rfl⟩ := HLI.out.addr (by omega)
           have cy := cell_st hB2 (HLI.out.cell lb lo rfl j y hy)
           have hy6 := hb6 y (List.mem_of_getElem? hy)
           rw [List.getD_eq_getElem?_getD, hy, Option.getD_some] at hgr
           have HGR := Lib.hid (HZN.out _ hgr); clear hgr
           have e1 : ((ln : Int) == 0) = false := by simp; omega
           have e3 : IntKind.i64.wrap (y - x) = y - x := IntWalk.i64_in _ (by omega)
           have i3 : (j : Int) < (ln : Int) := by omega
           have HB2 := Lib.hid hB2; clear hB2
           clear hne hbl' hb6 hl0 hy
           go_wp2_with fail
           go_region_law (first | (refine app1step _ rfl _ _ rfl w3.heap.size v6 zs ?_ ?_ wr.heap.size 0 1 (y - x) ?_ ?_ j HZL.out ?_ ?_ ?_; (focus go_simp); (focus (repeat (first | exact HOW.out | refine Own.drew ?_ | refine Own.alloc ?_ _))); (focus go_simp); (focus (simp [go_sem])); (focus omega); (focus (simp; omega)); intro va vc w' hown' hb' hgr' hat'; have HOWNA := Lib.hid hown'; have HBA := Lib.hid hb'; clear hown' hb' hgr' hat'))
           all_goals
             go_wp2_with fail
             go_roundg (gk - 1)
             case measure => have := HJ.out; omega
             case rel => exact ⟨j + 1, _, by have := HJ.out; omega, by go_num, rfl, by rw [HGR.out]; exact HOWNA.out, by first | exact ((HB2.out.alloc HB2.out.size _).drew).trans HBA.out | (trace_state; fail)⟩
       · obtain rfl : j = rn := by have := HJ.out; omega
         obtain ⟨g6, c6, hv, hg, hc⟩ : ∃ g c, v6 = .slice (some ⟨g, 0, none⟩) j c ∧ w3.heap.size ≤ g ∧ j ≤ c := by
           have hl : ((gainRow m.res bid).take j).length = j := by rw [List.length_take, gainRow_length, HRL.out]; omega
           rcases HOW.out.2 with ⟨_, e0⟩ | ⟨g2, cap, cur, e, hb, hh, hle, _⟩
           · omega
           · rw [hl] at e hle; exact ⟨g2, cap, e, hb, hle⟩
         subst hv
         have hrow : (gainRow m.res bid).take j = gainRow m.res bid := List.take_of_length_le (by rw [gainRow_length, HRL.out]; omega)
         have hT := HOW.out.tab.1
         rw [hrow] at hT
         have HT := Lib.hid hT; clear hT hrow
         have hbd : ∀ x, x ∈ gainRow m.res bid → -9223372036854775808 ≤ x ∧ x ≤ 9223372036854775807 := fun x hx => by
           have := HOK.out.rows.2 (gainRow m.res bid) (List.mem_map.2 ⟨bid, List.mem_of_getElem? HBID.out, rfl⟩) x hx
           omega
         have HBD := Lib.hid hbd; clear hbd
         have hap : v4.ownBlock ≠ some g6 := fun e => by have := (HO.out.lt g6 e).2; omega
         have HAP := Lib.hid hap; clear hap
         have HB2 := Lib.hid hB2; clear hB2
         have hgl : (gainRow m.res bid).length = j := by rw [gainRow_length, HRL.out]
         have HGL := Lib.hid hgl; clear hgl
         go_wp2_with (at_builtin; refine appOR _ rfl _ _ rfl w2.heap.size v4 ((gainsM m).take k) rfl ((HO.out.below HB2.out (Nat.le_refl _)).below ((Below.refl _ wr).alloc (Nat.le_refl _) _) (Nat.le_refl _)) wr.heap.size g6 j c6 (gainRow m.res bid) rfl (by simp [go_sem]) (Tab.below HT.out ((Below.refl _ wr).alloc (Nat.le_refl _) _) (Tab.lt HT.out)) HGL.out hc HBD.out (by omega) HAP.out (by rw [HTK.out]; omega) (by simp; omega) ?_)
         intro g' cap' w' hO' hb'
         have HO' := Lib.hid hO'; clear hO'
         have HB' := Lib.hid ((HB.out.trans (HB2.out.mono hbs)).trans ((((Below.refl _ wr).alloc (Nat.le_refl _) (.cells #[.slice (some ⟨g6, 0, none⟩) j c6] 25)).mono (by omega)).trans hb')); clear hb'
         go_wp2_with fail
         go_roundg gO
         case measure => have := HK.out; have := HGO.out; omega
         case rel =>
           refine ⟨k + 1, _, by have := HK.out; have := HGO.out; omega, by go_num, rfl, ?_, HB'.out⟩
           rw [HGM.out]
           exact HO'.out
   · obtain rfl : k = on := by have := HK.out; omega
     have hO2 := HO.out
     rw [List.take_of_length_le (by rw [gainsM_length, HBL.out]; omega)] at hO2
     have HO2 := Lib.hid hO2; clear hO2
     have HB := Lib.hid hB; clear hB
     go_wp2_with fail
     go_ret2
     exact ⟨v4, rfl, HO2.out.lower hbs2, HB2.out.trans (HB.out.mono hbs2)⟩
end Go.Proofs.YtkddkkcfpnndlaaGreatDoor
