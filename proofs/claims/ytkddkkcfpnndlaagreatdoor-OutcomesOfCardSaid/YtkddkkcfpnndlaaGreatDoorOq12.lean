/- Walks: outcomes.Even. -/
import Derived.Test.YtkddkkcfpnndlaaGreatDoorOq11
import Derived.Outline
namespace Go.Proofs.YtkddkkcfpnndlaaGreatDoor
open Go.RowKit Sale

def ev0 (w : World) (ra ba oa ha pa : Option Addr) (rn rc bn bc on oc hn hc pn pc : Nat) : World := (mw w ra ba oa rn rc bn bc on oc).alloc (.cells #[.slice ha hn hc, .slice pa pn pc] 70)
theorem ev0_at (w : World) (ra ba oa ha pa : Option Addr) (rn rc bn bc on oc hn hc pn pc : Nat) : VRow (ev0 w ra ba oa ha pa rn rc bn bc on oc hn hc pn pc) w.heap.size 57 [.slice ra rn rc, .slice ba bn bc, .slice oa on oc] ∧
   VRow (ev0 w ra ba oa ha pa rn rc bn bc on oc hn hc pn pc) (w.heap.size + 1) 70 [.slice ha hn hc, .slice pa pn pc] ∧ Below w.heap.size w (ev0 w ra ba oa ha pa rn rc bn bc on oc hn hc pn pc) := by
 have h1 := VRow.new w 57 [.slice ra rn rc, .slice ba bn bc, .slice oa on oc]
 have h2 := VRow.new (mw w ra ba oa rn rc bn bc on oc) 70 [.slice ha hn hc, .slice pa pn pc]
 rw [show (mw w ra ba oa rn rc bn bc on oc).heap.size = w.heap.size + 1 by simp [mw]] at h2
 exact ⟨h1.alloc _, h2, ((Below.refl _ _).alloc (Nat.le_refl _) _).alloc (by simp) _⟩

set_option maxRecDepth 100000 in
set_option maxHeartbeats 2000000 in
theorem Even_no (ra ba oa ha pa : Option Addr) (rn rc bn bc on oc hn hc pn pc : Nat) (m : Mkt) (_o : Outc) (w : World) (hm : MktAt w ra ba oa rn rc bn bc on oc m) (h : mcheck m = false ∨ hn ≠ bn ∨ pn ≠ rn) :
   Calls Tryz.prog 51 #[.agg #[.slice ra rn rc, .slice ba bn bc, .slice oa on oc], .agg #[.slice ha hn hc, .slice pa pn pc]] w fun e w' => e = .returned (.bool false) ∧ Below w.heap.size w w' := by
 obtain ⟨hv2, hv3, hb0⟩ := ev0_at w ra ba oa ha pa rn rc bn bc on oc hn hc pn pc
 have hm1 := hm.below hb0 (Nat.le_refl _)
 have HK := Lib.hid (mcheck_any ra ba oa rn rc bn bc on oc m (ev0 w ra ba oa ha pa rn rc bn bc on oc hn hc pn pc) hm1.res hm1.bids hm1.ord)
 have HV := Lib.hid (And.intro hv2 (And.intro hv3 hb0)); clear hv2 hv3 hb0 hm hm1
 cases hc : mcheck m with
 | false =>
   have HC := Lib.hid hc; clear hc h
   go_enter Tryz.func51, Tryz.ntmps51
   go_wp2_with fail
   go_step3
   go_wp2_with fail
   refine HK.out.mono ?_
   rw [HC.out]
   rintro e w1 ⟨rfl, hb⟩
   have HB := Lib.hid (HV.out.2.2.trans (hb.mono HV.out.2.2.size)); clear hb
   go_wp2_with fail
   rw [Exit.noGoto_ret]; go_ret
   exact ⟨rfl, HB.out⟩
 | true =>
   have HC := Lib.hid hc
   by_cases h1 : hn = bn
   · have h2 : pn ≠ rn := by
       rcases h with h | h | h
       · rw [hc] at h; cases h
       · exact absurd h1 h
       · exact h
     clear hc h
     have e1 : ((hn : Int) != (bn : Int)) = false := by simp [h1]
     have e2 : ((pn : Int) != (rn : Int)) = true := by simp; omega
     have H1 := Lib.hid (And.intro h1 h2); clear h1 h2
     go_enter Tryz.func51, Tryz.ntmps51
     go_wp2_with fail
     go_step3
     go_wp2_with fail
     refine HK.out.mono ?_
     rw [HC.out]
     rintro e w1 ⟨rfl, hb⟩
     have k0 := (HV.out.1.below hb HV.out.1.lt).cell (k := 0) rfl
     have k1 := (HV.out.1.below hb HV.out.1.lt).cell (k := 1) rfl
     have k2 := (HV.out.2.1.below hb HV.out.2.1.lt).cell (k := 0) rfl
     have k3 := (HV.out.2.1.below hb HV.out.2.1.lt).cell (k := 1) rfl
     have HB := Lib.hid (HV.out.2.2.trans (hb.mono HV.out.2.2.size)); clear hb
     go_wp2_with fail
     rw [Exit.noGoto_ret]; go_ret
     exact ⟨rfl, HB.out⟩
   · have e1 : ((hn : Int) != (bn : Int)) = true := by simp; omega
     clear hc h
     have H1 := Lib.hid h1; clear h1
     go_enter Tryz.func51, Tryz.ntmps51
     go_wp2_with fail
     go_step3
     go_wp2_with fail
     refine HK.out.mono ?_
     rw [HC.out]
     rintro e w1 ⟨rfl, hb⟩
     have k0 := (HV.out.1.below hb HV.out.1.lt).cell (k := 0) rfl
     have k1 := (HV.out.1.below hb HV.out.1.lt).cell (k := 1) rfl
     have k2 := (HV.out.2.1.below hb HV.out.2.1.lt).cell (k := 0) rfl
     have k3 := (HV.out.2.1.below hb HV.out.2.1.lt).cell (k := 1) rfl
     have HB := Lib.hid (HV.out.2.2.trans (hb.mono HV.out.2.2.size)); clear hb
     go_wp2_with fail
     rw [Exit.noGoto_ret]; go_ret
     exact ⟨rfl, HB.out⟩

theorem ev_start {w w1 : World} {ra ba oa ha pa : Option Addr} {rn rc bn bc on oc hn hc pn pc : Nat} (h : VRow w1 w.heap.size 57 [.slice ra rn rc, .slice ba bn bc, .slice oa on oc] ∧ VRow w1 (w.heap.size + 1) 70 [.slice ha hn hc, .slice pa pn pc] ∧ Below w.heap.size w w1) :
   EvAt w w1.heap.size (w1.heap.size + 1) ra ba oa ha pa rn rc bn bc on oc hn hc pn pc (timesOf []) (timesOf []) ((w1.alloc (.cells #[.int .i64 0, .int .i64 0, .int .i64 0, .int .i64 0, .int .i64 0, .int .i64 0, .int .i64 0, .int .i64 0] 114)).alloc (.cells #[.int .i64 0, .int .i64 0, .int .i64 0, .int .i64 0, .int .i64 0, .int .i64 0, .int .i64 0, .int .i64 0] 114)) := by
 obtain ⟨h1, h2, h3⟩ := h
 have hb : Below w1.heap.size w1 ((w1.alloc (.cells (iarr (timesOf [])) 114)).alloc (.cells (iarr (timesOf [])) 114)) := ((Below.refl _ _).alloc (Nat.le_refl _) _).alloc (by simp) _
 have := h2.lt
 exact ⟨h1.below hb h1.lt, h2.below hb h2.lt, (Row.new w1 _ (timesOf [])).alloc _, Row.new' _ _ (timesOf []) (by simp), h3.trans (hb.mono h3.size), by omega, by omega⟩

def EvMid (m : Mkt) (o : Outc) (ev : Bool) (own : List Int) : Prop := own.length = 8 ∧ (∀ x, x ∈ own → 0 ≤ x ∧ x ≤ 8) ∧ ((ev = true ∧ evBids m o o.has.length = true ∧ own = timesOf o.has) ∨ (ev = false ∧ evBids m o o.has.length = false))
theorem timesOf_ok (l : List Int) (h : l.length ≤ 8) : (timesOf l).length = 8 ∧ ∀ x, x ∈ timesOf l → 0 ≤ x ∧ x ≤ 8 := by
 refine ⟨by simp [timesOf], fun x hx => ?_⟩
 obtain ⟨j, _, rfl⟩ := List.mem_map.1 hx
 have := List.count_le_length (a := (j : Int)) (l := l)
 omega
theorem timesOf_minus (l : List Int) : timesOf (l ++ [-1]) = timesOf l := by
 unfold timesOf
 refine List.map_congr_left fun j _ => ?_
 rw [List.count_append, List.count_cons_of_ne (by omega)]
 simp
theorem evBids_succ {m : Mkt} {o : Outc} {i : Nat} {x : Int} (h : o.has[i]? = some x) : evBids m o (i + 1) = (evBids m o i && evBid m o i x) := by
 unfold evBids
 rw [List.range_succ, List.all_append]
 simp [List.getD_eq_getElem?_getD, h]
theorem evBids_no {m : Mkt} {o : Outc} {i n : Nat} {x : Int} (h : o.has[i]? = some x) (hi : i < n) (hx : evBid m o i x = false) : evBids m o n = false := by
 unfold evBids
 rw [List.all_eq_false]
 exact ⟨i, List.mem_range.2 hi, by rw [List.getD_eq_getElem?_getD, h]; simp [hx]⟩

def evP (m : Mkt) (o : Outc) (own : List Int) (k : Nat) : Bool := decide (m.res.getD k 0 ≤ o.prices.getD k 0) && (decide (o.prices.getD k 0 ≤ 2000000) && (decide (0 < own.getD k 0) || o.prices.getD k 0 == m.res.getD k 0))
def evPs (m : Mkt) (o : Outc) (own : List Int) (n : Nat) : Bool := (List.range n).all (evP m o own)
theorem evPs_succ (m : Mkt) (o : Outc) (own : List Int) (k : Nat) : evPs m o own (k + 1) = (evPs m o own k && evP m o own k) := by unfold evPs; rw [List.range_succ, List.all_append]; simp
def freeOf (own : List Int) (n : Nat) : List Int := (List.range 8).map fun j => if j < n then max 0 (own.getD j 0 - 1) else 0
theorem freeOf_zero (own : List Int) : freeOf own 0 = timesOf [] := by simp [freeOf, timesOf]
theorem freeOf_get (own : List Int) (n : Nat) {k : Nat} (hk : k < 8) : (freeOf own n)[k]? = some (if k < n then max 0 (own.getD k 0 - 1) else 0) := by simp [freeOf, hk]
theorem freeOf_set (own : List Int) {k : Nat} : (freeOf own k).set k (max 0 (own.getD k 0 - 1)) = freeOf own (k + 1) := by
 apply List.ext_getElem?
 intro j
 by_cases hj : j < 8
 · rw [freeOf_get own (k + 1) hj]
   by_cases e : k = j
   · subst e
     rw [List.getElem?_set_self (by simpa [freeOf] using hj), if_pos (by omega)]
   · rw [List.getElem?_set_ne e, freeOf_get own k hj]
     by_cases h : j < k
     · rw [if_pos h, if_pos (by omega)]
     · rw [if_neg h, if_neg (by omega)]
 · rw [List.getElem?_eq_none (by simp [freeOf]; omega), List.getElem?_eq_none (by simp [freeOf]; omega)]
theorem even_end {m : Mkt} {o : Outc} {ev : Bool} {own : List Int} (h : EvMid m o ev own) (hc : mcheck m = true) (h1 : o.has.length = m.bids.length) (h2 : o.prices.length = m.res.length) (h8 : o.prices.length ≤ 8) :
   evenB m o = ((ev && evPs m o own o.prices.length) && (freeOf own o.prices.length == timesOf [])) := by
 unfold evenB
 rw [hc, decide_eq_true h1, decide_eq_true h2]
 simp only [Bool.true_and]
 obtain ⟨_, _, (⟨rfl, e2, e3⟩ | ⟨rfl, e2⟩)⟩ := h
 · rw [e2]
   simp only [Bool.true_and]
   subst e3
   have hg : ∀ k, k < 8 → (timesOf o.has).getD k 0 = (o.has.count (k : Int) : Int) := fun k hk => by rw [List.getD_eq_getElem?_getD, timesOf_get _ hk]; rfl
   have a1 : evPrices m o o.prices.length = evPs m o (timesOf o.has) o.prices.length := by
     unfold evPrices evPs
     rw [Bool.eq_iff_iff, List.all_eq_true, List.all_eq_true]
     constructor
     · intro hh k hk
       have := hh k hk
       unfold evPrice at this
       unfold evP
       rw [hg k (by have := List.mem_range.1 hk; omega)]
       simpa using this
     · intro hh k hk
       have := hh k hk
       unfold evP at this
       rw [hg k (by have := List.mem_range.1 hk; omega)] at this
       unfold evPrice
       simpa using this
   have a2 : evOnce o o.prices.length = (freeOf (timesOf o.has) o.prices.length == timesOf []) := by
     rw [Bool.eq_iff_iff, beq_iff_eq]
     unfold evOnce
     rw [List.all_eq_true]
     constructor
     · intro hh
       rw [← freeOf_zero (timesOf o.has)]
       apply List.ext_getElem?
       intro j
       by_cases hj : j < 8
       · rw [freeOf_get _ _ hj, freeOf_get _ _ hj, hg j hj]
         by_cases hjn : j < o.prices.length
         · have := hh j (List.mem_range.2 hjn)
           simp only [decide_eq_true_eq] at this
           rw [if_pos hjn, if_neg (by omega)]
           congr 1
           omega
         · rw [if_neg hjn, if_neg (by omega)]
       · rw [List.getElem?_eq_none (by simp [freeOf]; omega), List.getElem?_eq_none (by simp [freeOf]; omega)]
     · intro hh k hk
       have hk' := List.mem_range.1 hk
       have h3 := freeOf_get (timesOf o.has) o.prices.length (show k < 8 by omega)
       rw [hh, ← freeOf_zero (timesOf o.has), freeOf_get _ _ (show k < 8 by omega), if_pos hk', if_neg (by omega), hg k (by omega)] at h3
       have := Option.some.inj h3
       simp only [decide_eq_true_eq]
       omega
   rw [a1, a2]
 · rw [e2]; simp

theorem evBid_empty {m : Mkt} {o : Outc} {i : Nat} {x : Int} (h : (m.bids.getD i []).length = 0) (h1 : -1 ≤ x) (h2 : x < (o.prices.length : Int)) : evBid m o i x = (x == -1) := by
 unfold evBid; rw [decide_eq_true h1, decide_eq_true h2, if_pos h]; rfl
theorem evBid_low {m : Mkt} {o : Outc} {i : Nat} {x : Int} (h : (m.bids.getD i []).length ≠ 0) (h3 : hasV (m.bids.getD i []) o.prices x < 0) : evBid m o i x = false := by
 unfold evBid
 rw [if_neg h, byV_has, decide_eq_false (p := 0 ≤ hasV (m.bids.getD i []) o.prices x) (by omega)]; simp
theorem evBid_more {m : Mkt} {o : Outc} {i k : Nat} {x : Int} (h : (m.bids.getD i []).length ≠ 0) (hk : k < o.prices.length) (h3 : hasV (m.bids.getD i []) o.prices x < hasV (m.bids.getD i []) o.prices (k : Int)) : evBid m o i x = false := by
 unfold evBid
 rw [if_neg h]
 have : ((List.range o.prices.length).all fun k => decide (byV m o i (k : Int) ≤ byV m o i x)) = false := by
   rw [List.all_eq_false]
   exact ⟨k, List.mem_range.2 hk, by rw [byV_has, byV_has, decide_eq_false (by omega)]; decide⟩
 rw [this]; simp
theorem evBid_ok {m : Mkt} {o : Outc} {i : Nat} {x : Int} (h : (m.bids.getD i []).length ≠ 0) (h1 : -1 ≤ x) (h2 : x < (o.prices.length : Int)) (h3 : 0 ≤ hasV (m.bids.getD i []) o.prices x) (h4 : ∀ k : Nat, k < o.prices.length → hasV (m.bids.getD i []) o.prices (k : Int) ≤ hasV (m.bids.getD i []) o.prices x) : evBid m o i x = true := by
 unfold evBid
 rw [decide_eq_true h1, decide_eq_true h2, if_neg h, byV_has, decide_eq_true h3]
 simp only [Bool.true_and, List.all_eq_true, decide_eq_true_eq]
 exact fun k hk => h4 k (List.mem_range.1 hk)

set_option maxRecDepth 100000 in
set_option maxHeartbeats 4000000 in
theorem Even_yes (ra ba oa ha pa : Option Addr) (rn rc bn bc on oc hn hc pn pc : Nat) (m : Mkt) (o : Outc) (w : World) (hm : MktAt w ra ba oa rn rc bn bc on oc m) (ho : OutAt w ha pa hn hc pn pc o) (hc' : mcheck m = true) (hhn : hn = bn) (hpn : pn = rn) :
   Calls Tryz.prog 51 #[.agg #[.slice ra rn rc, .slice ba bn bc, .slice oa on oc], .agg #[.slice ha hn hc, .slice pa pn pc]] w fun e w' => e = .returned (.bool (evenB m o)) ∧ Below w.heap.size w w' := by
 subst hhn
 subst hpn
 obtain ⟨hv2, hv3, hb0⟩ := ev0_at w ra ba oa ha pa pn rc hn bc on oc hn hc pn pc
 have hm1 := hm.below hb0 (Nat.le_refl _)
 have HK := Lib.hid (mcheck_any ra ba oa pn rc hn bc on oc m (ev0 w ra ba oa ha pa pn rc hn bc on oc hn hc pn pc) hm1.res hm1.bids hm1.ord)
 have hok := mcheck_ok hc'
 have hrl := hm.res.len
 have hbl := hm.bids.len
 have hhl := ho.has.len
 have hpl := ho.prices.len
 have hn8 := hok.n8
 have hn1 := hok.n1
 have hm8 := hok.m8
 rw [hrl] at hn8 hn1
 rw [hbl] at hm8
 have HL := Lib.hid (And.intro hrl (And.intro hbl (And.intro hhl hpl))); clear hrl hbl hhl hpl
 have HV := Lib.hid (And.intro hv2 (And.intro hv3 hb0)); clear hv2 hv3 hb0 hm1
 have HM := Lib.hid (And.intro hm (And.intro ho hok)); clear hm ho hok
 have HC := Lib.hid hc'; clear hc'
 go_enter Tryz.func51, Tryz.ntmps51
 go_wp2_with fail
 go_step3
 go_wp2_with fail
 refine HK.out.mono ?_
 rw [HC.out]
 rintro e w1 ⟨rfl, hb⟩
 have k0 := (HV.out.1.below hb HV.out.1.lt).cell (k := 0) rfl
 have k1 := (HV.out.1.below hb HV.out.1.lt).cell (k := 1) rfl
 have k2 := (HV.out.2.1.below hb HV.out.2.1.lt).cell (k := 0) rfl
 have k3 := (HV.out.2.1.below hb HV.out.2.1.lt).cell (k := 1) rfl
 have HB1 := Lib.hid (And.intro (HV.out.1.below hb HV.out.1.lt) (And.intro (HV.out.2.1.below hb HV.out.2.1.lt) (HV.out.2.2.trans (hb.mono HV.out.2.2.size)))); clear hb
 go_wp2_with fail
 go_step3
 have hat := ev_start HB1.out
 obtain ⟨W2, hW2⟩ : ∃ W2, W2 = (w1.alloc (.cells #[.int .i64 0, .int .i64 0, .int .i64 0, .int .i64 0, .int .i64 0, .int .i64 0, .int .i64 0, .int .i64 0] 114)).alloc (.cells #[.int .i64 0, .int .i64 0, .int .i64 0, .int .i64 0, .int .i64 0, .int .i64 0, .int .i64 0, .int .i64 0] 114) := ⟨_, rfl⟩
 rw [← hW2] at hat ⊢
 clear hW2 k0 k1 k2 k3
 have k2 := hat.b3.cell (k := 0) rfl
 have HAT := Lib.hid hat; clear hat
 go_upto_block 0 with fail
 obtain ⟨B5, hB5⟩ : ∃ B, B = w1.heap.size := ⟨_, rfl⟩
 obtain ⟨B6, hB6⟩ : ∃ B, B = w1.heap.size + 1 := ⟨_, rfl⟩
 have HAT2 := Lib.hid (show EvAt w B5 B6 ra ba oa ha pa pn rc hn bc on oc hn hc pn pc (timesOf []) (timesOf []) W2 by rw [hB5, hB6]; exact HAT.out)
 clear HAT
 rw [← hB6, ← hB5]
 clear hB5 hB6 k2
 go_cut [7] (fun s7 wx => ∃ (ev : Bool) (own : List Int), s7 = .bool ev ∧ EvMid m o ev own ∧ EvAt w B5 B6 ra ba oa ha pa pn rc hn bc on oc hn hc pn pc own (timesOf []) wx)
 case first =>
   go_wp2_with fail
   go_loopg [7, 40] hn (fun g' s7 s40 wr => ∃ (i : Nat), i + g' = hn ∧ s40 = .int .i64 i ∧ s7 = .bool true ∧ evBids m o i = true ∧ EvAt w B5 B6 ra ba oa ha pa pn rc hn bc on oc hn hc pn pc (timesOf (o.has.take i)) (timesOf []) wr)
   case atStart => exact ⟨0, by omega, rfl, rfl, rfl, HAT2.out⟩
   case round =>
     obtain ⟨i, hi, rfl, rfl, hbs, hat⟩ := hrel
     have HII := Lib.hid hi; clear hi
     by_cases hlt : i < hn
     · have ho1 := HM.out.2.1.below hat.below (Nat.le_refl _)
       obtain ⟨x, hx, hxb⟩ := ho1.has.get hlt
       obtain ⟨hb', ho', rfl⟩ := ho1.has.addr (by omega)
       have cx := ho1.has.cell hb' ho' rfl i x hx
       have k3 := hat.b3.cell (k := 1) rfl
       obtain ⟨hx1, hx2⟩ := hxb
       have hol := timesOf_ok (o.has.take i) (by rw [List.length_take]; omega)
       have HX := Lib.hid (And.intro hx (And.intro hbs hol)); clear hx hbs hol
       have i1 : (i : Int) < (hn : Int) := by omega
       have HNO := Lib.hid (fun (h : evBid m o i x = false) (own : List Int) (h8 : own.length = 8 ∧ ∀ x, x ∈ own → 0 ≤ x ∧ x ≤ 8) => (show EvMid m o false own from ⟨h8.1, h8.2, .inr ⟨rfl, evBids_no HX.out.1 (by rw [HL.out.2.2.1]; exact hlt) h⟩⟩))
       clear ho1
       by_cases q1 : x < -1
       · have f1 : decide (x < -1) = true := by simpa using q1
         have hno : evBid m o i x = false := by unfold evBid; rw [decide_eq_false (by omega)]; rfl
         have HN := Lib.hid hno; clear hno
         have HAT := Lib.hid hat; clear hat
         go_wp2_with fail
         go_meet
         exact ⟨false, _, rfl, HNO.out HN.out _ HX.out.2.2, HAT.out⟩
       · have f1 : decide (x < -1) = false := by simpa using q1
         by_cases q2 : (pn : Int) ≤ x
         · have f2 : decide ((pn : Int) ≤ x) = true := by simpa using q2
           have hno : evBid m o i x = false := by unfold evBid; rw [decide_eq_false (p := x < (o.prices.length : Int)) (by rw [HL.out.2.2.2]; omega)]; simp
           have HN := Lib.hid hno; clear hno
           have HAT := Lib.hid hat; clear hat
           go_wp2_with fail
           go_meet
           exact ⟨false, _, rfl, HNO.out HN.out _ HX.out.2.2, HAT.out⟩
         · have f2 : decide ((pn : Int) ≤ x) = false := by simpa using q2
           have hpx : x < (pn : Int) := by omega
           have hpx1 : -1 ≤ x := by omega
           have hsn : timesOf (o.has.take (i + 1)) = timesOf (o.has.take i ++ [x]) := by rw [List.take_add_one, HX.out.1]; rfl
           have HSN := Lib.hid hsn; clear hsn
           have hbi : m.bids[i]? = some (m.bids.getD i []) := by rw [List.getD_eq_getElem?_getD, List.getElem?_eq_getElem (by rw [HL.out.2.1]; exact hlt)]; rfl
           have HBI := Lib.hid hbi; clear hbi
           have hbok := HM.out.2.2.bid_at (i := i) (by rw [HL.out.2.1]; exact hlt)
           rw [HL.out.1] at hbok
           have HBOK := Lib.hid hbok; clear hbok
           by_cases q3 : x = -1
           · have f3 : (x != -1) = false := by simpa using q3
             have hat' : EvAt w B5 B6 ra ba oa (some ⟨hb', ho', none⟩) pa pn rc hn bc on oc hn hc pn pc (timesOf (o.has.take (i + 1))) (timesOf []) wr := by
               rw [HSN.out, q3, timesOf_minus]; exact hat
             clear hat
             have H3 := Lib.hid q3; clear q3
             have hol' := timesOf_ok (o.has.take (i + 1)) (by rw [List.length_take]; omega)
             have HOL' := Lib.hid hol'; clear hol'
             go_upto_region 12 with fail
             obtain ⟨W', hW'⟩ : ∃ W', W' = wr := ⟨_, rfl⟩
             rw [← hW'] at hat' k3 ⊢
             clear hW' cx
             have hm1 := HM.out.1.below hat'.below (Nat.le_refl _)
             obtain ⟨bb, bo, rfl⟩ := hm1.bids.addr (by omega)
             obtain ⟨la, ln, lc, hcl0, hli0⟩ := HM.out.1.bids.cell bb bo rfl i _ HBI.out
             have hcl : W'.cell? ⟨bb, bo + i, none⟩ = some (.slice la ln lc) := by
               rw [hat'.below.cell (p := ⟨bb, bo + i, none⟩) (by simpa using block_lt_of_cell hcl0)]; exact hcl0
             clear hcl0
             have hli := hli0.below hat'.below (Nat.le_refl _)
             have HLI0 := Lib.hid hli0; clear hli0
             have hll := hli.len
             have c1 := hat'.b2.cell (k := 1) rfl
             have HLI := Lib.hid (And.intro hli hll)
             have hlnb := hli.big
             have HAT := Lib.hid hat'; clear hat' hm1 hli
             by_cases q4 : ln = 0
             · have e4 : ((ln : Int) == 0) = true := by simp [q4]
               have hev := evBid_empty (m := m) (o := o) (i := i) (x := x) (by rw [hll, q4]) hpx1 (by rw [HL.out.2.2.2]; exact hpx)
               have HEV := Lib.hid hev; clear hev
               have H4 := Lib.hid q4; clear q4 hll
               go_wp2_with fail
               go_roundg (gk - 1)
               case measure => have := HII.out; omega
               case rel => exact ⟨i + 1, by have := HII.out; omega, by go_num, rfl, by rw [evBids_succ HX.out.1, HX.out.2.1, HEV.out, H3.out]; rfl, HAT.out⟩
             · have e4 : ((ln : Int) == 0) = false := by simp; omega
               have hne : (m.bids.getD i []).length ≠ 0 := by rw [hll]; exact q4
               have hlp : ln = pn := by
                 rcases HBOK.out with h | ⟨h, _⟩
                 · rw [h] at hne; exact absurd rfl hne
                 · rw [← hll]; exact h
               have HNE := Lib.hid hne; clear hne hll
               have ho2 := HM.out.2.1.below HAT.out.below (Nat.le_refl _)
               have HHS := Lib.hid (ohas_any la pa ln lc pn pc (m.bids.getD i []) o.prices x W' HLI.out.1 ho2.prices hpx1 (by rw [hlp]; exact hpx) hpx)
               clear ho2
               have HLP := Lib.hid hlp; clear hlp q4
               obtain ⟨now, hnow⟩ : ∃ now, now = hasV (m.bids.getD i []) o.prices x := ⟨_, rfl⟩
               rw [← hnow] at HHS
               have hnb := hasV_bd (m.bids.getD i []) o.prices x
               rw [← hnow] at hnb
               obtain ⟨hnb1, hnb2⟩ := hnb
               have HNOW := Lib.hid hnow; clear hnow
               go_wp2_with fail
               refine HHS.out.mono ?_
               rintro e w3 ⟨rfl, hb3⟩
               have hat3 := HAT.out.step hb3
               have k3' := hat3.b3.cell (k := 1) rfl
               have HAT3 := Lib.hid hat3; clear hat3 hb3 HHS k3
               go_wp2_with fail
               obtain ⟨go, rfl⟩ : ∃ go : Nat, go = gk := ⟨_, rfl⟩
               obtain ⟨wo, rfl⟩ : ∃ wo : World, wo = wr := ⟨_, rfl⟩
               go_loopg [7, 79] pn (fun g' s7 s79 wr => ∃ (k : Nat), k + g' = pn ∧ s79 = .int .i64 k ∧ s7 = .bool true ∧ (0 < k → 0 ≤ now) ∧ (∀ j : Nat, j < k → hasV (m.bids.getD i []) o.prices (j : Int) ≤ now) ∧ EvAt w B5 B6 ra (some ⟨bb, bo, none⟩) oa (some ⟨hb', ho', none⟩) pa pn rc hn bc on oc hn hc pn pc (timesOf (o.has.take (i + 1))) (timesOf []) wr)
               case atStart => exact ⟨0, by omega, rfl, rfl, fun h => by omega, fun j h => by omega, HAT3.out⟩
               case round =>
                 obtain ⟨kk, hkk, rfl, rfl, hpos, hall, hat4⟩ := hrel
                 clear k3'
                 have HKK := Lib.hid hkk; clear hkk
                 have HPA := Lib.hid (And.intro hpos hall); clear hpos hall
                 by_cases hlt2 : kk < pn
                 · have k3 := hat4.b3.cell (k := 1) rfl
                   by_cases q5 : now < 0
                   · have f5 : decide (now < 0) = true := by simpa using q5
                     have HEV := Lib.hid (evBid_low (m := m) (o := o) (i := i) (x := x) HNE.out (by rw [← HNOW.out]; exact q5))
                     have HAT4 := Lib.hid hat4; clear hat4
                     go_wp2_with fail
                     go_meet
                     exact ⟨false, _, rfl, HNO.out HEV.out _ HOL'.out, HAT4.out⟩
                   · have f5 : decide (now < 0) = false := by simpa using q5
                     have ho2 := HM.out.2.1.below hat4.below (Nat.le_refl _)
                     have HHS := Lib.hid (ohas_any la pa ln lc pn pc (m.bids.getD i []) o.prices (kk : Int) wr (HLI0.out.below hat4.below (Nat.le_refl _)) ho2.prices (by omega) (by rw [HLP.out]; omega) (by omega))
                     clear ho2
                     obtain ⟨v, hv⟩ : ∃ v, v = hasV (m.bids.getD i []) o.prices (kk : Int) := ⟨_, rfl⟩
                     rw [← hv] at HHS
                     have hvb := hasV_bd (m.bids.getD i []) o.prices (kk : Int)
                     rw [← hv] at hvb
                     obtain ⟨hvb1, hvb2⟩ := hvb
                     have HV' := Lib.hid hv; clear hv
                     have HAT4 := Lib.hid hat4; clear hat4
                     have H5 := Lib.hid q5; clear q5
                     by_cases q6 : now < v
                     · have f6 : decide (now < v) = true := by simpa using q6
                       have HEV := Lib.hid (evBid_more (m := m) (o := o) (i := i) (k := kk) (x := x) HNE.out (by rw [HL.out.2.2.2]; exact hlt2) (by rw [← HNOW.out, ← HV'.out]; exact q6))
                       go_wp2_with fail
                       refine HHS.out.mono ?_
                       rintro e w5 ⟨rfl, hb5⟩
                       have HB5 := Lib.hid hb5; clear hb5
                       go_wp2_with fail
                       go_meet
                       exact ⟨false, _, rfl, HNO.out HEV.out _ HOL'.out, HAT4.out.step HB5.out⟩
                     · have f6 : decide (now < v) = false := by simpa using q6
                       go_wp2_with fail
                       refine HHS.out.mono ?_
                       rintro e w5 ⟨rfl, hb5⟩
                       have HB5 := Lib.hid hb5; clear hb5
                       go_wp2_with fail
                       go_roundg (gk - 1)
                       case measure => have := HKK.out; omega
                       case rel =>
                         refine ⟨kk + 1, by have := HKK.out; omega, by go_num, rfl, fun _ => by have := H5.out; omega, fun j hj => ?_, HAT4.out.step HB5.out⟩
                         by_cases e : j < kk
                         · exact HPA.out.2 j e
                         · obtain rfl : j = kk := by omega
                           rw [← HV'.out]; omega
                 · obtain rfl : kk = pn := by have := HKK.out; omega
                   have HAT4 := Lib.hid hat4; clear hat4
                   have hev := evBid_ok (m := m) (o := o) (i := i) (x := x) HNE.out hpx1 (by rw [HL.out.2.2.2]; exact hpx) (by rw [← HNOW.out]; exact HPA.out.1 (by omega)) (fun j hj => by rw [← HNOW.out]; exact HPA.out.2 j (by rw [HL.out.2.2.2] at hj; exact hj))
                   have HEV := Lib.hid hev; clear hev
                   go_wp2_with fail
                   go_roundg (go - 1)
                   case measure => have := HII.out; omega
                   case rel => exact ⟨i + 1, by have := HII.out; omega, by go_num, rfl, by rw [evBids_succ HX.out.1, HX.out.2.1, HEV.out]; rfl, HAT4.out⟩
           · have f3 : (x != -1) = true := by simpa using q3
             obtain ⟨k, hk⟩ : ∃ k : Nat, x = (k : Int) := ⟨x.toNat, by omega⟩
             have hk8 : k < 8 := by omega
             have hcc := hat.r5.cell (timesOf_get (o.has.take i) hk8)
             have hff := hat.r5.frozen k
             have hcl : (o.has.take i).count (k : Int) ≤ i := Nat.le_trans List.count_le_length (by rw [List.length_take]; omega)
             have e1 : IntKind.i64.wrap (((o.has.take i).count (k : Int) : Int) + 1) = ((o.has.take i).count (k : Int) : Int) + 1 := IntWalk.i64_in _ (by omega)
             have hat' := hat.set5 k (((o.has.take i).count (k : Int) : Int) + 1)
             rw [timesOf_set _ _ hk8 rfl, ← hk, ← HSN.out] at hat'
             rw [← hk] at e1 hcc hcl
             obtain ⟨cc, hccc⟩ : ∃ cc, cc = (o.has.take i).count x := ⟨_, rfl⟩
             rw [← hccc] at e1 hcc hcl hat'
             clear hat hccc
             have H3 := Lib.hid q3; clear q3
             have hol' := timesOf_ok (o.has.take (i + 1)) (by rw [List.length_take]; omega)
             have HOL' := Lib.hid hol'; clear hol'
             have kx : (k : Int) < 8 := by omega
             subst hk
             have HATT := Lib.hid hat'; clear hat'
             go_upto_region 12 with fail
             have hat' := HATT.out
             have k3' := hat'.b3.cell (k := 1) rfl
             clear k3
             have k3 := k3'
             clear k3' HATT
             obtain ⟨W', hW'⟩ : ∃ W', W' = wr.setCell ⟨B5, k, none⟩ (.int .i64 ((cc : Int) + 1)) := ⟨_, rfl⟩
             rw [← hW'] at hat' k3 ⊢
             clear hW' cx hcc hff
             have hm1 := HM.out.1.below hat'.below (Nat.le_refl _)
             obtain ⟨bb, bo, rfl⟩ := hm1.bids.addr (by omega)
             obtain ⟨la, ln, lc, hcl0, hli0⟩ := HM.out.1.bids.cell bb bo rfl i _ HBI.out
             have hcl : W'.cell? ⟨bb, bo + i, none⟩ = some (.slice la ln lc) := by
               rw [hat'.below.cell (p := ⟨bb, bo + i, none⟩) (by simpa using block_lt_of_cell hcl0)]; exact hcl0
             clear hcl0
             have hli := hli0.below hat'.below (Nat.le_refl _)
             have HLI0 := Lib.hid hli0; clear hli0
             have hll := hli.len
             have c1 := hat'.b2.cell (k := 1) rfl
             have HLI := Lib.hid (And.intro hli hll)
             have hlnb := hli.big
             have HAT := Lib.hid hat'; clear hat' hm1 hli
             by_cases q4 : ln = 0
             · have e4 : ((ln : Int) == 0) = true := by simp [q4]
               have hev := evBid_empty (m := m) (o := o) (i := i) (x := (k : Int)) (by rw [hll, q4]) hpx1 (by rw [HL.out.2.2.2]; exact hpx)
               have HEV := Lib.hid hev; clear hev
               have H4 := Lib.hid q4; clear q4 hll
               go_wp2_with fail
               go_meet
               exact ⟨false, _, rfl, HNO.out (by rw [HEV.out]; simp) _ HOL'.out, HAT.out⟩
             · have e4 : ((ln : Int) == 0) = false := by simp; omega
               have hne : (m.bids.getD i []).length ≠ 0 := by rw [hll]; exact q4
               have hlp : ln = pn := by
                 rcases HBOK.out with h | ⟨h, _⟩
                 · rw [h] at hne; exact absurd rfl hne
                 · rw [← hll]; exact h
               have HNE := Lib.hid hne; clear hne hll
               have ho2 := HM.out.2.1.below HAT.out.below (Nat.le_refl _)
               have HHS := Lib.hid (ohas_any la pa ln lc pn pc (m.bids.getD i []) o.prices (k : Int) W' HLI.out.1 ho2.prices hpx1 (by rw [hlp]; exact hpx) hpx)
               clear ho2
               have HLP := Lib.hid hlp; clear hlp q4
               obtain ⟨now, hnow⟩ : ∃ now, now = hasV (m.bids.getD i []) o.prices (k : Int) := ⟨_, rfl⟩
               rw [← hnow] at HHS
               have hnb := hasV_bd (m.bids.getD i []) o.prices (k : Int)
               rw [← hnow] at hnb
               obtain ⟨hnb1, hnb2⟩ := hnb
               have HNOW := Lib.hid hnow; clear hnow
               go_wp2_with fail
               refine HHS.out.mono ?_
               rintro e w3 ⟨rfl, hb3⟩
               have hat3 := HAT.out.step hb3
               have k3' := hat3.b3.cell (k := 1) rfl
               have HAT3 := Lib.hid hat3; clear hat3 hb3 HHS k3
               go_wp2_with fail
               obtain ⟨go, rfl⟩ : ∃ go : Nat, go = gk := ⟨_, rfl⟩
               obtain ⟨wo, rfl⟩ : ∃ wo : World, wo = wr := ⟨_, rfl⟩
               go_loopg [7, 79] pn (fun g' s7 s79 wr => ∃ (k : Nat), k + g' = pn ∧ s79 = .int .i64 k ∧ s7 = .bool true ∧ (0 < k → 0 ≤ now) ∧ (∀ j : Nat, j < k → hasV (m.bids.getD i []) o.prices (j : Int) ≤ now) ∧ EvAt w B5 B6 ra (some ⟨bb, bo, none⟩) oa (some ⟨hb', ho', none⟩) pa pn rc hn bc on oc hn hc pn pc (timesOf (o.has.take (i + 1))) (timesOf []) wr)
               case atStart => exact ⟨0, by omega, rfl, rfl, fun h => by omega, fun j h => by omega, HAT3.out⟩
               case round =>
                 obtain ⟨kk, hkk, rfl, rfl, hpos, hall, hat4⟩ := hrel
                 clear k3'
                 have HKK := Lib.hid hkk; clear hkk
                 have HPA := Lib.hid (And.intro hpos hall); clear hpos hall
                 by_cases hlt2 : kk < pn
                 · have k3 := hat4.b3.cell (k := 1) rfl
                   by_cases q5 : now < 0
                   · have f5 : decide (now < 0) = true := by simpa using q5
                     have HEV := Lib.hid (evBid_low (m := m) (o := o) (i := i) (x := (k : Int)) HNE.out (by rw [← HNOW.out]; exact q5))
                     have HAT4 := Lib.hid hat4; clear hat4
                     go_wp2_with fail
                     go_meet
                     exact ⟨false, _, rfl, HNO.out HEV.out _ HOL'.out, HAT4.out⟩
                   · have f5 : decide (now < 0) = false := by simpa using q5
                     have ho2 := HM.out.2.1.below hat4.below (Nat.le_refl _)
                     have HHS := Lib.hid (ohas_any la pa ln lc pn pc (m.bids.getD i []) o.prices (kk : Int) wr (HLI0.out.below hat4.below (Nat.le_refl _)) ho2.prices (by omega) (by rw [HLP.out]; omega) (by omega))
                     clear ho2
                     obtain ⟨v, hv⟩ : ∃ v, v = hasV (m.bids.getD i []) o.prices (kk : Int) := ⟨_, rfl⟩
                     rw [← hv] at HHS
                     have hvb := hasV_bd (m.bids.getD i []) o.prices (kk : Int)
                     rw [← hv] at hvb
                     obtain ⟨hvb1, hvb2⟩ := hvb
                     have HV' := Lib.hid hv; clear hv
                     have HAT4 := Lib.hid hat4; clear hat4
                     have H5 := Lib.hid q5; clear q5
                     by_cases q6 : now < v
                     · have f6 : decide (now < v) = true := by simpa using q6
                       have HEV := Lib.hid (evBid_more (m := m) (o := o) (i := i) (k := kk) (x := (k : Int)) HNE.out (by rw [HL.out.2.2.2]; exact hlt2) (by rw [← HNOW.out, ← HV'.out]; exact q6))
                       go_wp2_with fail
                       refine HHS.out.mono ?_
                       rintro e w5 ⟨rfl, hb5⟩
                       have HB5 := Lib.hid hb5; clear hb5
                       go_wp2_with fail
                       go_meet
                       exact ⟨false, _, rfl, HNO.out HEV.out _ HOL'.out, HAT4.out.step HB5.out⟩
                     · have f6 : decide (now < v) = false := by simpa using q6
                       go_wp2_with fail
                       refine HHS.out.mono ?_
                       rintro e w5 ⟨rfl, hb5⟩
                       have HB5 := Lib.hid hb5; clear hb5
                       go_wp2_with fail
                       go_roundg (gk - 1)
                       case measure => have := HKK.out; omega
                       case rel =>
                         refine ⟨kk + 1, by have := HKK.out; omega, by go_num, rfl, fun _ => by have := H5.out; omega, fun j hj => ?_, HAT4.out.step HB5.out⟩
                         by_cases e : j < kk
                         · exact HPA.out.2 j e
                         · obtain rfl : j = kk := by omega
                           rw [← HV'.out]; omega
                 · obtain rfl : kk = pn := by have := HKK.out; omega
                   have HAT4 := Lib.hid hat4; clear hat4
                   have hev := evBid_ok (m := m) (o := o) (i := i) (x := (k : Int)) HNE.out hpx1 (by rw [HL.out.2.2.2]; exact hpx) (by rw [← HNOW.out]; exact HPA.out.1 (by omega)) (fun j hj => by rw [← HNOW.out]; exact HPA.out.2 j (by rw [HL.out.2.2.2] at hj; exact hj))
                   have HEV := Lib.hid hev; clear hev
                   go_wp2_with fail
                   go_roundg (go - 1)
                   case measure => have := HII.out; omega
                   case rel => exact ⟨i + 1, by have := HII.out; omega, by go_num, rfl, by rw [evBids_succ HX.out.1, HX.out.2.1, HEV.out]; rfl, HAT4.out⟩
     · obtain rfl : i = hn := by have := HII.out; omega
       have HAT := Lib.hid (And.intro hbs hat); clear hat hbs
       go_wp2_with fail
       go_meet
       refine ⟨true, _, rfl, ?_, HAT.out.2⟩
       have e1 : o.has.take i = o.has := List.take_of_length_le (by rw [HL.out.2.2.1]; exact Nat.le_refl _)
       have h8 := timesOf_ok o.has (by rw [HL.out.2.2.1]; exact hm8)
       exact ⟨by rw [e1]; exact h8.1, by rw [e1]; exact h8.2, .inl ⟨rfl, by rw [HL.out.2.2.1]; exact HAT.out.1, by rw [e1]⟩⟩
 case rest =>
   obtain ⟨ev, own, rfl, hmid, hat⟩ := hcut
   have hend := even_end hmid HC.out (by rw [HL.out.2.2.1, HL.out.2.1]) (by rw [HL.out.2.2.2, HL.out.1]) (by rw [HL.out.2.2.2]; exact hn8)
   rw [HL.out.2.2.2] at hend
   obtain ⟨hol, hob, _⟩ := hmid
   have k3 := hat.b3.cell (k := 1) rfl
   have HEND := Lib.hid hend; clear hend
   have HAT := Lib.hid hat; clear hat
   have HOL := Lib.hid hol; clear hol
   have HOB := Lib.hid hob; clear hob
   have ho1 := HM.out.2.1.below HAT.out.below (Nat.le_refl _)
   go_wp2_with fail
   go_loopg [7, 98] pn (fun g' s7 s98 wr => ∃ (k : Nat), k + g' = pn ∧ s98 = .int .i64 k ∧ s7 = .bool (ev && evPs m o own k) ∧ EvAt w B5 B6 ra ba oa ha pa pn rc hn bc on oc hn hc pn pc own (freeOf own k) wr)
   case atStart => exact ⟨0, by omega, rfl, by simp [evPs], by rw [freeOf_zero]; exact HAT.out⟩
   case round =>
     obtain ⟨k, hk, rfl, rfl, hat2⟩ := hrel
     clear k3 ho1
     have HKK := Lib.hid hk; clear hk
     obtain ⟨ev2, hev2⟩ : ∃ e, e = (ev && evPs m o own k) := ⟨_, rfl⟩
     rw [← hev2]
     by_cases hlt : k < pn
     · have ho1 := HM.out.2.1.below hat2.below (Nat.le_refl _)
       have hm1 := HM.out.1.below hat2.below (Nat.le_refl _)
       obtain ⟨p, hp, _⟩ := ho1.prices.get hlt
       obtain ⟨r, hr, _⟩ := hm1.res.get hlt
       obtain ⟨pb, po, rfl⟩ := ho1.prices.addr (by omega)
       obtain ⟨rb, ro, rfl⟩ := hm1.res.addr (by omega)
       have cp := ho1.prices.cell pb po rfl k p hp
       have cr := hm1.res.cell rb ro rfl k r hr
       have hy : own[k]? = some (own.getD k 0) := getD_some (by rw [HOL.out]; omega) 0
       have hyb := HOB.out _ (List.mem_of_getElem? hy)
       have c5 := hat2.r5.cell hy
       have hp' : o.prices.getD k 0 = p := getD_at hp
       have hr' : m.res.getD k 0 = r := getD_at hr
       have hPs : (ev && evPs m o own (k + 1)) = (ev2 && (decide (r ≤ p) && (decide (p ≤ 2000000) && (decide (0 < own.getD k 0) || p == r)))) := by
         have h := evPs_succ m o own k
         unfold evP at h
         rw [hp', hr'] at h
         rw [h, hev2, Bool.and_assoc]
       have hfs := freeOf_set own (k := k)
       have hf0 := hat2.r6.cell (freeOf_get own k (show k < 8 by omega))
       rw [if_neg (Nat.lt_irrefl k)] at hf0
       have hff := hat2.r6.frozen k
       have HS6 := Lib.hid (hat2.set6 k (max 0 (own.getD k 0 - 1)))
       rw [hfs] at HS6
       have c0s := HS6.out.b2.cell (k := 0) rfl
       have crs := (HM.out.1.below HS6.out.below (Nat.le_refl _)).res.cell rb ro rfl k r hr
       have c5s := HS6.out.r5.cell hy
       obtain ⟨y, hyy⟩ : ∃ y, y = own.getD k 0 := ⟨_, rfl⟩
       rw [← hyy] at hyb c5 hPs c5s c0s crs HS6
       obtain ⟨hy0, hy8⟩ := hyb
       clear hfs hy hyy ho1 hm1 hp hr hp' hr' hat2 cr hev2
       have HPS := Lib.hid hPs; clear hPs
       have i1 : (k : Int) < (pn : Int) := by omega
       have i8 : (k : Int) < 8 := by omega
       cases ev2 with
       | false =>
         go_wp2_with fail
         go_roundg (gk - 1)
         case measure => have := HKK.out; omega
         case rel => exact ⟨k + 1, by have := HKK.out; omega, by go_num, by rw [HPS.out]; simp only [Bool.false_and], HS6.out⟩
       | true =>
         by_cases q1 : r ≤ p
         · have f1 : decide (r ≤ p) = true := by simpa using q1
           by_cases q2 : p ≤ 2000000
           · have f2 : decide (p ≤ 2000000) = true := by simpa using q2
             by_cases q3 : 0 < y
             · have f3 : decide (0 < y) = true := by simpa using q3
               go_wp2_with fail
               go_roundg (gk - 1)
               case measure => have := HKK.out; omega
               case rel => exact ⟨k + 1, by have := HKK.out; omega, by go_num, by rw [HPS.out]; simp only [f1, f2, f3, Bool.true_and, Bool.true_or], HS6.out⟩
             · have f3 : decide (0 < y) = false := by simpa using q3
               by_cases q4 : p = r
               · have f4 : (p == r) = true := by simpa using q4
                 clear q4
                 go_wp2_with fail
                 go_roundg (gk - 1)
                 case measure => have := HKK.out; omega
                 case rel => exact ⟨k + 1, by have := HKK.out; omega, by go_num, by rw [HPS.out]; simp only [f1, f2, f3, f4, Bool.true_and, Bool.or_true], HS6.out⟩
               · have f4 : (p == r) = false := by simpa using q4
                 go_wp2_with fail
                 go_roundg (gk - 1)
                 case measure => have := HKK.out; omega
                 case rel => exact ⟨k + 1, by have := HKK.out; omega, by go_num, by rw [HPS.out]; simp only [f1, f2, f3, f4, Bool.or_false, Bool.and_false], HS6.out⟩
           · have f2 : decide (p ≤ 2000000) = false := by simpa using q2
             go_wp2_with fail
             go_roundg (gk - 1)
             case measure => have := HKK.out; omega
             case rel => exact ⟨k + 1, by have := HKK.out; omega, by go_num, by rw [HPS.out]; simp only [f1, f2, Bool.false_and, Bool.and_false], HS6.out⟩
         · have f1 : decide (r ≤ p) = false := by simpa using q1
           go_wp2_with fail
           go_roundg (gk - 1)
           case measure => have := HKK.out; omega
           case rel => exact ⟨k + 1, by have := HKK.out; omega, by go_num, by rw [HPS.out]; simp only [f1, Bool.false_and, Bool.and_false], HS6.out⟩
     · obtain rfl : k = pn := by have := HKK.out; omega
       have HEV := Lib.hid hev2
       have hend := HEND.out
       rw [← hev2] at hend
       have hr6 := hat2.r6
       obtain ⟨x0, x1, x2, x3, x4, x5, x6, x7, hfx⟩ : ∃ x0 x1 x2 x3 x4 x5 x6 x7, freeOf own k = [x0, x1, x2, x3, x4, x5, x6, x7] := ⟨_, _, _, _, _, _, _, _, rfl⟩
       rw [hfx] at hr6
       have hq : ∀ w, (binOp .eql 114 (.agg #[.int .i64 x0, .int .i64 x1, .int .i64 x2, .int .i64 x3, .int .i64 x4, .int .i64 x5, .int .i64 x6, .int .i64 x7]) (.agg #[.int .i64 0, .int .i64 0, .int .i64 0, .int .i64 0, .int .i64 0, .int .i64 0, .int .i64 0, .int .i64 0])).run Tryz.prog w = .ok (.bool ([x0, x1, x2, x3, x4, x5, x6, x7] == timesOf [])) w :=
         fun w => run_eql_iarr w 114 3 [x0, x1, x2, x3, x4, x5, x6, x7] (timesOf []) 8 Tryz.underlying114 Tryz.underlying3 (by kernel_rfl) rfl rfl
       rw [hfx] at hend
       have g0 := hr6.cell (k := 0) rfl
       have g1 := hr6.cell (k := 1) rfl
       have g2 := hr6.cell (k := 2) rfl
       have g3 := hr6.cell (k := 3) rfl
       have g4 := hr6.cell (k := 4) rfl
       have g5 := hr6.cell (k := 5) rfl
       have g6 := hr6.cell (k := 6) rfl
       have g7 := hr6.cell (k := 7) rfl
       have HH := Lib.hid (And.intro hend hat2.below)
       clear hend hat2 hev2 hfx hr6
       cases ev2 with
       | false =>
         go_wp2_with fail
         rw [Exit.noGoto_ret]; go_ret
         exact ⟨ret_bool (by rw [HH.out.1]; rfl), HH.out.2⟩
       | true =>
         go_wp2_with fail
         rw [Exit.noGoto_ret]; go_ret
         exact ⟨ret_bool (by rw [HH.out.1]; rfl), HH.out.2⟩
end Go.Proofs.YtkddkkcfpnndlaaGreatDoor
