/- Walks: the reference's payments: what others lose by one. Walks: the reference's payments: may items be had so? what each pays. Walks: the reference's payments: what each pays. -/
import Derived.Test.YtkddkkcfpnndlaaGreatDoorPq30
import Derived.Test.YtkddkkcfpnndlaaGreatDoorPq31
import Derived.Test.YtkddkkcfpnndlaaGreatDoorPq27
import Derived.Test.YtkddkkcfpnndlaaGreatDoorPq19
namespace Go.Proofs.YtkddkkcfpnndlaaGreatDoor
open Go.RowKit Sale

theorem ORows.rows {w : World} {base : Nat} {v : Value} {xss : List (List Int)} (h : ORows w base v xss) (hb : ∀ xs, xs ∈ xss → xs.length ≤ 4611686018427387904) (hbig : xss.length ≤ 4611686018427387904) : ∃ a c, v = .slice a xss.length c ∧ Rows w a xss.length c xss :=
  (h.own hb).rows hbig
theorem gainsM_small (m : Mkt) (h : m.res.length ≤ 8) : ∀ xs, xs ∈ gainsM m → xs.length ≤ 4611686018427387904 := fun xs hx => by
  obtain ⟨b, _, rfl⟩ := List.mem_map.1 hx
  rw [gainRow_length]; omega
theorem First11M {m : Mkt} (h : MOk m) (ga oa : Option Addr) (gn gc on oc : Nat) (w : World) (hg : Rows w ga gn gc (gainsM m)) (ho : Ints w oa on oc m.ord) :
    Calls Tryz.prog 12 #[.slice ga gn gc, .int .i64 (m.res.length : Nat), .slice oa on oc] w (RetRow 0 (hasM m) gn w) := by
  have h1 := h.ordN.1
  have h2 := h.ord
  rw [h1] at ho h2
  exact first11_yes ga oa gn gc on oc (gainsM m) m.res.length (ordN m) w hg ho h.wcheck (by rw [gainsM_length]; exact h2)

theorem lost14_no (ra ba oa : Option Addr) (rn rc bn bc on oc : Nat) (m : Mkt) (i0 : Int) (w : World) (hm : MktAt w ra ba oa rn rc bn bc on oc m) (hs : Short rn bn on m) (h : mcheck m = false ∨ i0 < 0 ∨ (bn : Int) ≤ i0) :
    Calls Tryz.prog 27 #[.agg #[.slice ra rn rc, .slice ba bn bc, .slice oa on oc], .int .i64 i0] w fun e w' => e = .returned (.tuple #[.int .i64 0, .int .i64 1]) ∧ Below w.heap.size w w' := by
  have HB0 := Lib.hid (mw_start w ra ba oa rn rc bn bc on oc)
  have hm1 := hm.below (mw_kept HB0.out).2.2.2.2 (Nat.le_refl _)
  have HK := Lib.hid (ref05_any ra ba oa rn rc bn bc on oc m (mw w ra ba oa rn rc bn bc on oc) hm1 hs.r hs.b hs.o hs.x)
  clear hm1 hm
  cases hc : mcheck m with
  | false =>
    rw [hc] at HK
    clear hc h
    go_enter Tryz.func27, Tryz.ntmps27
    go_wp2_with fail
    refine HK.out.mono ?_
    rintro e w1 ⟨rfl, hb⟩
    have HB1 := Lib.hid (mw_below' HB0.out hb); clear hb HK
    go_wp2_with fail
    go_ret2
    exact ⟨rfl, (mw_kept HB1.out).2.2.2.2⟩
  | true =>
    rw [hc] at HK h
    clear hc
    have h := h.resolve_left (by decide)
    by_cases hneg : i0 < 0
    · have e1 : decide (i0 < 0) = true := by simpa using hneg
      go_enter Tryz.func27, Tryz.ntmps27
      go_wp2_with fail
      refine HK.out.mono ?_
      rintro e w1 ⟨rfl, hb⟩
      have HB1 := Lib.hid (mw_below' HB0.out hb); clear hb HK
      go_wp2_with fail
      go_ret2
      exact ⟨rfl, (mw_kept HB1.out).2.2.2.2⟩
    · have e1 : decide (i0 < 0) = false := by simpa using hneg
      have e2 : decide ((bn : Int) ≤ i0) = true := by
        rw [decide_eq_true_eq]; exact h.resolve_left hneg
      have H := Lib.hid h; clear h
      have HN := Lib.hid hneg; clear hneg
      go_enter Tryz.func27, Tryz.ntmps27
      go_wp2_with fail
      refine HK.out.mono ?_
      rintro e w1 ⟨rfl, hb⟩
      have HB1 := Lib.hid (mw_below' HB0.out hb); clear hb HK
      obtain ⟨c0, c1, _, hs1, _⟩ := mw_kept HB1.out
      go_wp2_with fail
      go_ret2
      exact ⟨rfl, (mw_kept HB1.out).2.2.2.2⟩

set_option maxRecDepth 100000 in
set_option maxHeartbeats 4000000 in
theorem lost14_yes (ra ba oa : Option Addr) (rn rc bn bc on oc i0 : Nat) (m : Mkt) (w : World) (hm : MktAt w ra ba oa rn rc bn bc on oc m) (hc : mcheck m = true) (hi : i0 < bn) :
    Calls Tryz.prog 27 #[.agg #[.slice ra rn rc, .slice ba bn bc, .slice oa on oc], .int .i64 i0] w fun e w' => e = .returned (.tuple #[.int .i64 (lostM m i0), .int .i64 0]) ∧ Below w.heap.size w w' := by
  have hok := mcheck_ok hc
  have hrl := hm.res.len
  have hbl := hm.bids.len
  have hm8 := hok.m8
  have hn8 := hok.n8
  rw [hbl] at hm8
  have HB0 := Lib.hid (mw_start w ra ba oa rn rc bn bc on oc)
  have hm1 := hm.below (mw_kept HB0.out).2.2.2.2 (Nat.le_refl _)
  have HS := Lib.hid (short_of hok hm)
  have HK := Lib.hid (ref05_any ra ba oa rn rc bn bc on oc m (mw w ra ba oa rn rc bn bc on oc) hm1 HS.out.r HS.out.b HS.out.o HS.out.x)
  clear hm1
  have HM := Lib.hid hm; clear hm
  have HC := Lib.hid hc; clear hc
  have HOK := Lib.hid hok; clear hok
  have HRL := Lib.hid hrl; clear hrl
  have HBL := Lib.hid hbl; clear hbl
  have e1 : decide ((i0 : Int) < 0) = false := by simp
  have e2 : decide ((bn : Int) ≤ (i0 : Int)) = false := by simp; omega
  have e3 : decide (bn ≤ i0) = false := by simp; omega
  go_enter Tryz.func27, Tryz.ntmps27
  go_wp2_with fail
  refine HK.out.mono ?_
  rw [HC.out]
  rintro e w1 ⟨rfl, hb⟩
  have HB1 := Lib.hid (mw_below' HB0.out hb); clear hb HK
  obtain ⟨c0, c1, c2, hs1, hbw⟩ := mw_kept HB1.out
  have HBW := Lib.hid hbw; clear hbw
  go_wp2_with fail
  refine (gains05_yes ra ba oa rn rc bn bc on oc m w1 (HM.out.below HBW.out (Nat.le_refl _)) HC.out).mono ?_
  rintro e w2 ⟨v, rfl, hO, hb2⟩
  obtain ⟨ga, gc, rfl, hR⟩ := hO.rows (gainsM_small m HOK.out.n8) (by rw [gainsM_length]; have := HOK.out.m8; omega)
  rw [gainsM_length, HBL.out] at hR ⊢
  have HR := Lib.hid hR; clear hR hO
  have c0 := cell_st hb2 c0
  have c1 := cell_st hb2 c1
  have c2 := cell_st hb2 c2
  have HB2 := Lib.hid (HBW.out.trans (hb2.mono HBW.out.size)); clear hb2 HBW
  have hf := First11M HOK.out ga oa bn gc on oc w2 HR.out (HM.out.ord.below HB2.out (Nat.le_refl _))
  rw [HRL.out] at hf
  have HF := Lib.hid hf; clear hf
  go_wp2_with fail
  refine HF.out.mono ?_
  rintro e w3 ⟨hhl, Bh, rfl, hRow, hBh, hhbd, hb3⟩
  have hHas := hRow.ints (by omega) hhbd
  rw [hhl] at hHas
  obtain ⟨ha, hha⟩ : ∃ ha, ha = some (⟨Bh, 0, none⟩ : Addr) := ⟨_, rfl⟩
  rw [← hha] at hHas ⊢
  clear hha
  have HHL := Lib.hid hhl; clear hhl
  have HH := Lib.hid hHas; clear hHas hRow hBh hhbd HF
  have c0 := cell_st hb3 c0
  have c1 := cell_st hb3 c1
  have c2 := cell_st hb3 c2
  have HR3 := Lib.hid (HR.out.below hb3 (Nat.le_refl _))
  have HB3 := Lib.hid (HB2.out.trans (hb3.mono HB2.out.size)); clear hb3 HB2 HR
  go_wp2_with fail
  go_loopg [10, 11] bn (fun g' s10 s11 wr => ∃ k : Nat, k + g' = bn ∧ s11 = .int .i64 k ∧ s10 = .int .i64 (oTo m i0 k) ∧ Below w3.heap.size w3 wr)
  case atStart => exact ⟨0, by omega, rfl, rfl, Below.refl _ _⟩
  case round =>
    obtain ⟨k, hk, rfl, rfl, hBw⟩ := hrel
    have HK := Lib.hid hk; clear hk
    by_cases hlt : k < bn
    · obtain ⟨x, hx, _⟩ := HH.out.get hlt
      obtain ⟨hb', ho', rfl⟩ := HH.out.addr (by omega)
      have cx := cell_st hBw (HH.out.cell hb' ho' rfl k x hx)
      have hbd := oTo_bd HOK.out i0 k
      have hge := hasM_ge m x (List.mem_of_getElem? hx)
      have i1 : (k : Int) < (bn : Int) := by omega
      by_cases hne : x = -1
      · have e1 : decide (0 ≤ x) = false := by simp; omega
        have hs := oTo_none (i0 := i0) (by rw [← hne]; exact hx)
        have HS := Lib.hid hs; clear hs
        have HX := Lib.hid hx; clear hx
        have HNE := Lib.hid hne; clear hne
        have HBW2 := Lib.hid hBw; clear hBw
        obtain ⟨t, ht⟩ : ∃ t, t = oTo m i0 k := ⟨_, rfl⟩
        rw [← ht] at hbd ⊢
        have HT := Lib.hid ht; clear ht
        by_cases hki : k = i0
        · have f1 : ((k : Int) != (i0 : Int)) = false := by simp [hki]
          have HKI := Lib.hid hki; clear hki
          go_wp2_with fail
          go_roundg (gk - 1)
          case measure => have := HK.out; omega
          case rel => exact ⟨k + 1, by have := HK.out; omega, by go_num, by rw [HS.out, HT.out], HBW2.out⟩
        · have f1 : ((k : Int) != (i0 : Int)) = true := by simp; omega
          have HKI := Lib.hid hki; clear hki
          go_wp2_with fail
          go_roundg (gk - 1)
          case measure => have := HK.out; omega
          case rel => exact ⟨k + 1, by have := HK.out; omega, by go_num, by rw [HS.out, HT.out], HBW2.out⟩
      · obtain ⟨j, rfl, hjn, hsl, _⟩ := HOK.out.item hx hne
        have e1 : decide (0 ≤ (j : Int)) = true := by simp
        obtain ⟨row, hrow⟩ := HR3.out.get hlt
        obtain ⟨gb, go', rfl⟩ := HR3.out.addr (by omega)
        obtain ⟨la, ln, lc, hcl0, hli⟩ := HR3.out.cell gb go' rfl k row hrow
        have hcl := cell_st hBw hcl0
        have hln : ln = m.res.length := by have h1 := HOK.out.rows.1 row (List.mem_of_getElem? hrow); have := hli.len; omega
        have hjl : j < ln := by omega
        obtain ⟨y, hy, _⟩ := hli.get hjl
        obtain ⟨lb, lo, rfl⟩ := hli.addr (by omega)
        have cy := cell_st hBw (hli.cell lb lo rfl j y hy)
        have hgi : gi (gainsM m) k j = y := gi_at hrow hy
        have hyb := HOK.out.bd k j
        rw [hgi] at hyb
        have i2 : (j : Int) < (ln : Int) := by omega
        have HGI := Lib.hid hgi; clear hgi
        have HSL := Lib.hid hsl; clear hsl
        have HROW := Lib.hid hrow; clear hrow
        have HLI := Lib.hid hli; clear hli hcl0
        have HX := Lib.hid hx; clear hx
        have HY := Lib.hid hy; clear hy
        have HLN := Lib.hid hln; clear hln
        have HBW2 := Lib.hid hBw; clear hBw
        obtain ⟨hyb1, hyb2⟩ := hyb
        obtain ⟨t, ht⟩ : ∃ t, t = oTo m i0 k := ⟨_, rfl⟩
        rw [← ht] at hbd ⊢
        have HT := Lib.hid ht; clear ht
        obtain ⟨hbd1, hbd2⟩ := hbd
        by_cases hki : k = i0
        · have f1 : ((k : Int) != (i0 : Int)) = false := by simp [hki]
          have HKI := Lib.hid hki; clear hki
          go_wp2_with fail
          go_roundg (gk - 1)
          case measure => have := HK.out; omega
          case rel => exact ⟨k + 1, by have := HK.out; omega, by go_num, by rw [← HKI.out, oTo_same, HT.out, HKI.out], HBW2.out⟩
        · have f1 : ((k : Int) != (i0 : Int)) = true := by simp; omega
          have HKI := Lib.hid hki; clear hki
          have e3 : IntKind.i64.wrap (t + y) = t + y := IntWalk.i64_in _ (by omega)
          go_wp2_with fail
          go_quiet (fail)
          go_wp2_with fail
          go_roundg (gk - 1)
          case measure => have := HK.out; omega
          case rel => exact ⟨k + 1, by have := HK.out; omega, by go_num, by rw [oTo_some HSL.out HKI.out, HGI.out, HT.out], below_drewN HBW2.out _⟩
    · obtain rfl : k = bn := by have := HK.out; omega
      obtain ⟨w4, rfl⟩ : ∃ w4, w4 = wr := ⟨_, rfl⟩
      have c0 := cell_st hBw c0
      have c1 := cell_st hBw c1
      have c2 := cell_st hBw c2
      have HB4 := Lib.hid (HB3.out.trans (hBw.mono HB3.out.size)); clear hBw HB3
      have hbd := oTo_bd HOK.out i0 k
      obtain ⟨t, ht⟩ : ∃ t, t = oTo m i0 k := ⟨_, rfl⟩
      rw [← ht] at hbd ⊢
      have HT := Lib.hid ht; clear ht
      go_wp2_with fail
      refine (without05_yes ra ba oa rn rc k bc on oc i0 m w4 (HM.out.below HB4.out (Nat.le_refl _)) HC.out hi).mono ?_
      rintro e w5 ⟨a1, x1, a2, x2, a3, x3, rfl, hm5, hb5⟩
      have c0 := cell_st hb5 c0
      have HM5 := Lib.hid hm5; clear hm5
      have HB5 := Lib.hid (HB4.out.trans (hb5.mono HB4.out.size)); clear hb5 HB4
      have hb6 : Below w5.heap.size w5 (w5.alloc (.cells #[.slice a1 rn x1, .slice a2 k x2, .slice a3 on x3] 57)) := (Below.refl _ _).alloc (Nat.le_refl _) _
      have c0 := cell_st hb6 c0
      have hm6 := HM5.out.below hb6 (Nat.le_refl _)
      obtain ⟨w6, hw6⟩ : ∃ w6, w6 = w5.alloc (.cells #[.slice a1 rn x1, .slice a2 k x2, .slice a3 on x3] 57) := ⟨_, rfl⟩
      rw [← hw6] at hb6 c0 hm6
      have HM6 := Lib.hid hm6; clear hm6
      have HB6 := Lib.hid (HB5.out.trans (hb6.mono HB5.out.size)); clear hb6 HB5 HM5
      have HW6 := Lib.hid hw6.symm; clear hw6
      have hmc : mcheck (withoutM m i0) = true := mcheck_of (HOK.out.without i0)
      have HMC := Lib.hid hmc; clear hmc
      clear c1 c2
      go_wp2_with fail
      rw [HW6.out]
      refine (gains05_yes a1 a2 a3 rn x1 k x2 on x3 (withoutM m i0) w6 HM6.out HMC.out).mono ?_
      rintro e w7 ⟨v, rfl, hO, hb7⟩
      obtain ⟨gb, gd, rfl, hR7⟩ := hO.rows (gainsM_small (withoutM m i0) HOK.out.n8) (by rw [gainsM_length, withoutM_length, HBL.out]; omega)
      rw [gainsM_length, withoutM_length, HBL.out] at hR7 ⊢
      have HR7 := Lib.hid hR7; clear hR7 hO
      have c0 := cell_st hb7 c0
      have HB7 := Lib.hid (HB6.out.trans (hb7.mono HB6.out.size)); clear hb7 HB6
      have hbe := best10_yes gb k gd (gainsM (withoutM m i0)) m.res.length w7 HR7.out (HOK.out.without i0).wcheck
      rw [HRL.out] at hbe
      have hbv := bestVal_bd (HOK.out.without i0)
      rw [show (withoutM m i0).res.length = m.res.length from rfl, HRL.out] at hbv
      obtain ⟨bv, hbve⟩ : ∃ bv, bv = bestVal (gainsM (withoutM m i0)) rn := ⟨_, rfl⟩
      rw [← hbve] at hbv hbe
      have HBV := Lib.hid hbve; clear hbve
      have HBE := Lib.hid hbe; clear hbe
      go_wp2_with fail
      refine HBE.out.mono ?_
      rintro e w8 ⟨rfl, hb8⟩
      have HB8 := Lib.hid (HB7.out.trans (hb8.mono HB7.out.size)); clear hb8 HB7 HBE
      obtain ⟨b1, b2⟩ := hbd
      obtain ⟨b3, b4⟩ := hbv
      have e5 : IntKind.i64.wrap (bv - t) = bv - t := IntWalk.i64_in _ (by omega)
      clear c0
      go_wp2_with fail
      go_ret2
      have hfin : bv - t = lostM m i0 := by rw [HT.out, HBV.out]; unfold lostM; rw [HRL.out, HBL.out]
      refine ⟨?_, HB8.out⟩
      rw [← hfin]
      rfl
end Go.Proofs.YtkddkkcfpnndlaaGreatDoor

namespace Go.Proofs.YtkddkkcfpnndlaaGreatDoor
open Go.RowKit Sale

set_option maxRecDepth 100000 in
set_option maxHeartbeats 4000000 in
theorem has14_any (ra ba oa la : Option Addr) (rn rc bn bc on oc ln lc : Nat) (m : Mkt) (has : List Int) (w : World) (hm : MktAt w ra ba oa rn rc bn bc on oc m) (hs : Short rn bn on m) (hl : Ints w la ln lc has) :
    Calls Tryz.prog 108 #[.agg #[.slice ra rn rc, .slice ba bn bc, .slice oa on oc], .slice la ln lc] w fun e w' => e = .returned (.bool (mcheck m && mayB m has)) ∧ Below w.heap.size w w' := by
  have hrl := hm.res.len
  have hbl := hm.bids.len
  have hll := hl.len
  have HB0 := Lib.hid (mw_start w ra ba oa rn rc bn bc on oc)
  have hm1 := hm.below (mw_kept HB0.out).2.2.2.2 (Nat.le_refl _)
  have HK := Lib.hid (ref05_any ra ba oa rn rc bn bc on oc m (mw w ra ba oa rn rc bn bc on oc) hm1 hs.r hs.b hs.o hs.x)
  clear hm1
  have HM := Lib.hid hm; clear hm
  have HL := Lib.hid hl; clear hl
  cases hc : mcheck m with
  | false =>
    rw [hc] at HK
    clear hc
    go_enter Tryz.func108, Tryz.ntmps108
    go_wp2_with fail
    refine HK.out.mono ?_
    rintro e w1 ⟨rfl, hb⟩
    have HB1 := Lib.hid (mw_below' HB0.out hb); clear hb HK
    go_wp2_with fail
    go_ret
    exact ⟨rfl, (mw_kept HB1.out).2.2.2.2⟩
  | true =>
    rw [hc] at HK
    have HC := Lib.hid hc; clear hc
    have HOK := Lib.hid (mcheck_ok HC.out)
    have hm8 := HOK.out.m8
    rw [hbl] at hm8
    have HBL := Lib.hid hbl; clear hbl
    have HRL := Lib.hid hrl; clear hrl
    have HLL := Lib.hid hll; clear hll
    rw [Bool.true_and]
    by_cases hlen : ln = bn
    case neg =>
      have e1 : ((ln : Int) != (bn : Int)) = true := by simp; omega
      have hv : mayB m has = false := by unfold mayB; rw [HLL.out, HBL.out]; simp [hlen]
      rw [hv]
      clear hlen hv
      go_enter Tryz.func108, Tryz.ntmps108
      go_wp2_with fail
      refine HK.out.mono ?_
      rintro e w1 ⟨rfl, hb⟩
      have HB1 := Lib.hid (mw_below' HB0.out hb); clear hb HK
      obtain ⟨c0, c1, c2, hs1, hbw⟩ := mw_kept HB1.out
      clear c0 c2 hs1 hbw
      go_wp2_with fail
      go_ret
      exact ⟨rfl, (mw_kept HB1.out).2.2.2.2⟩
    subst hlen
    obtain ⟨mv, hmv⟩ : ∃ mv, mayB m has = mv := ⟨_, rfl⟩
    rw [hmv]
    have HMV := Lib.hid hmv; clear hmv
    go_enter Tryz.func108, Tryz.ntmps108
    go_wp2_with fail
    refine HK.out.mono ?_
    rintro e w1 ⟨rfl, hb⟩
    have HB1 := Lib.hid (mw_below' HB0.out hb); clear hb HK
    obtain ⟨c0, c1, c2, hs1, hbw⟩ := mw_kept HB1.out
    have HBW := Lib.hid hbw; clear hbw
    go_wp2_with fail
    refine (gains05_yes ra ba oa rn rc ln bc on oc m w1 (HM.out.below HBW.out (Nat.le_refl _)) HC.out).mono ?_
    rintro e w2 ⟨v, rfl, hO, hb2⟩
    obtain ⟨ga, gc, rfl, hR⟩ := hO.rows (gainsM_small m HOK.out.n8) (by rw [gainsM_length]; have := HOK.out.m8; omega)
    rw [gainsM_length, HBL.out] at hR ⊢
    have HR := Lib.hid hR; clear hR hO
    have c0 := cell_st hb2 c0
    have HB2 := Lib.hid (HBW.out.trans (hb2.mono HBW.out.size)); clear hb2 HBW c1 c2
    have HL2 := Lib.hid (HL.out.below HB2.out (Nat.le_refl _))
    go_wp2_with fail
    go_loopg [7, 8] ln (fun g' s7 s8 wr => ∃ k : Nat, k + g' = ln ∧ s7 = .int .i64 k ∧ mayTo m has k = true ∧ Below w2.heap.size w2 wr)
    case atStart => exact ⟨0, by omega, rfl, rfl, Below.refl _ _⟩
    case round =>
      obtain ⟨k, hk, rfl, hM, hB⟩ := hrel
      have HK := Lib.hid hk; clear hk
      have HMT := Lib.hid hM; clear hM
      by_cases hlt : k < ln
      · obtain ⟨x, hx, _⟩ := HL2.out.get hlt
        obtain ⟨lb, lo, rfl⟩ := HL2.out.addr (by omega)
        have cx := cell_st hB (HL2.out.cell lb lo rfl k x hx)
        have c0w := cell_st hB c0
        have i1 : (k : Int) < (ln : Int) := by omega
        have hsu := mayTo_succ (m := m) hx
        have hno : okMay m has k x = false → mv = false := fun h => by rw [← HMV.out]; unfold mayB; rw [mayTo_no hx (n := has.length) (by rw [HLL.out]; exact hlt) h, Bool.and_false]
        have HNO := Lib.hid hno; clear hno
        have HSU := Lib.hid hsu; clear hsu
        have HX := Lib.hid hx; clear hx
        obtain ⟨gO, hgO⟩ : ∃ n, n = gk - 1 := ⟨_, rfl⟩
        have HGO := Lib.hid hgO; clear hgO
        by_cases h1 : x = -1
        · have e1 : (x == -1) = true := by simp [h1]
          have hok1 : okMay m has k x = true := by simp [okMay, h1]
          have HO := Lib.hid hok1; clear hok1
          have H1 := Lib.hid h1; clear h1
          have HB := Lib.hid hB; clear hB
          go_wp2_with fail
          go_roundg gO
          case measure => have := HK.out; have := HGO.out; omega
          case rel => exact ⟨k + 1, by have := HK.out; have := HGO.out; omega, by go_num, by rw [HSU.out, HMT.out, HO.out]; rfl, HB.out⟩
        · have e1 : (x == -1) = false := by simp [h1]
          by_cases hneg : x < 0
          · have e2 : decide (x < 0) = true := by simpa using hneg
            have hok1 : okMay m has k x = false := by simp [okMay, h1]; omega
            have HO := Lib.hid (HNO.out hok1); clear hok1
            have H1 := Lib.hid h1; clear h1
            have HN := Lib.hid hneg; clear hneg
            have HB := Lib.hid hB; clear hB
            go_wp2_with fail
            go_quiet (fail)
            go_wp2_with fail
            go_ret
            exact ⟨ret_bool HO.out.symm, below_drewN (HB2.out.trans (HB.out.mono HB2.out.size)) _⟩
          · obtain ⟨j, rfl⟩ := Int.eq_ofNat_of_zero_le (show 0 ≤ x by omega)
            have e2 : decide ((j : Int) < 0) = false := by simp
            have H1 := Lib.hid h1; clear h1
            clear hneg
            by_cases hjr : j < rn
            · have e3 : decide ((rn : Int) ≤ (j : Int)) = false := by simp; omega
              have e3' : decide (rn ≤ j) = false := by simp; omega
              obtain ⟨row, hrow⟩ := HR.out.get hlt
              obtain ⟨gb, go', rfl⟩ := HR.out.addr (by omega)
              obtain ⟨ra', rn', rc', hcl0, hli⟩ := HR.out.cell gb go' rfl k row hrow
              have hcl := cell_st hB hcl0
              have hln : rn' = rn := by have h1 := HOK.out.rows.1 row (List.mem_of_getElem? hrow); have := hli.len; have := HRL.out; omega
              subst hln
              obtain ⟨y, hy, _⟩ := hli.get hjr
              obtain ⟨rb, ro, rfl⟩ := hli.addr (by omega)
              have cy := cell_st hB (hli.cell rb ro rfl j y hy)
              have hgi : gi (gainsM m) k j = y := gi_at hrow hy
              have i2 : (j : Int) < (rn' : Int) := by omega
              have HGI := Lib.hid hgi; clear hgi
              have HROW := Lib.hid hrow; clear hrow
              have HLI := Lib.hid hli; clear hli hcl0
              have HY := Lib.hid hy; clear hy
              have HB := Lib.hid hB; clear hB
              by_cases hy0 : y < 0
              · have e4 : decide (y < 0) = true := by simpa using hy0
                have hok1 : okMay m has k (j : Int) = false := by
                  simp only [okMay, Int.toNat_natCast, HGI.out]
                  rw [decide_eq_false (show ¬ (0 : Int) ≤ y by omega), decide_eq_false (show ¬ (j : Int) = -1 by omega)]; simp
                have HO := Lib.hid (HNO.out hok1); clear hok1
                have HY0 := Lib.hid hy0; clear hy0
                go_wp2_with fail
                go_quiet (fail)
                go_wp2_with fail
                go_ret
                exact ⟨ret_bool HO.out.symm, below_drewN (HB2.out.trans (HB.out.mono HB2.out.size)) _⟩
              · have e4 : decide (y < 0) = false := by simpa using hy0
                have HY0 := Lib.hid hy0; clear hy0
                have hokj : okMay m has k (j : Int) = !(has.take k).contains (j : Int) := by
                  simp only [okMay, Int.toNat_natCast, HGI.out]
                  rw [decide_eq_true (show (0 : Int) ≤ y by have := HY0.out; omega), decide_eq_true (show (0 : Int) ≤ (j : Int) by omega), decide_eq_true (show (j : Int) < (m.res.length : Int) by have := HRL.out; omega), decide_eq_false (show ¬ (j : Int) = -1 by omega)]; simp
                have HOKJ := Lib.hid hokj; clear hokj
                go_wp2_with fail
                go_quiet (fail)
                go_wp2_with fail
                have HBN := Lib.hid (below_drewN HB.out nq)
                obtain ⟨w4, hw4⟩ : ∃ w4, w4 = wr.drewN nq := ⟨_, rfl⟩
                rw [← hw4] at HBN ⊢
                clear hw4 cx c0w hcl cy
                go_loopg [8] k (fun g' s8 wr => ∃ i : Nat, i + g' = k ∧ s8 = .int .i64 i ∧ (has.take i).contains (j : Int) = false ∧ Below w2.heap.size w2 wr)
                case atStart => exact ⟨0, by omega, rfl, rfl, HBN.out⟩
                case round =>
                  obtain ⟨i, hi, rfl, hct, hBn⟩ := hrel
                  have HI := Lib.hid hi; clear hi
                  have HCT := Lib.hid hct; clear hct
                  have clx := cell_st hBn (HL2.out.cell lb lo rfl k (j : Int) HX.out)
                  by_cases hil : i < k
                  · obtain ⟨z, hz, _⟩ := HL2.out.get (show i < ln by omega)
                    have cz := cell_st hBn (HL2.out.cell lb lo rfl i z hz)
                    have hzt : has.take (i + 1) = has.take i ++ [z] := by rw [List.take_add_one, hz]; rfl
                    have hzm : z ∈ has.take k := by
                      have : (has.take k)[i]? = some z := by rw [List.getElem?_take_of_lt hil]; exact hz
                      exact List.mem_of_getElem? this
                    have HZT := Lib.hid (And.intro hzt hzm); clear hzt hzm hz
                    have HBM := Lib.hid hBn; clear hBn
                    have i3 : (i : Int) < (k : Int) := by omega
                    have i4 : (i : Int) < (ln : Int) := by omega
                    by_cases hzj : z = (j : Int)
                    · have hv : mv = false := HNO.out (by rw [HOKJ.out, show (has.take k).contains (j : Int) = true by simpa [← hzj] using HZT.out.2]; rfl)
                      subst hzj
                      have HV := Lib.hid hv; clear hv
                      go_wp2_with fail
                      go_quiet (fail)
                      go_wp2_with fail
                      go_ret
                      exact ⟨ret_bool HV.out.symm, HB2.out.trans ((below_drewN HBM.out _).mono HB2.out.size)⟩
                    · have e5 : (z == (j : Int)) = false := by simpa using hzj
                      have HZJ := Lib.hid hzj; clear hzj
                      go_wp2_with fail
                      go_quiet (fail)
                      go_wp2_with fail
                      go_roundg (gk - 1)
                      case measure => have := HI.out; omega
                      case rel =>
                        refine ⟨i + 1, by have := HI.out; omega, by go_num, ?_, below_drewN HBM.out _⟩
                        rw [HZT.out.1, List.contains_append, HCT.out]
                        simp; exact fun e => HZJ.out e.symm
                  · obtain rfl : i = k := by have := HI.out; omega
                    have i3 : ¬ (i : Int) < (i : Int) := by omega
                    have HBM := Lib.hid hBn; clear hBn
                    go_wp2_with fail
                    go_roundg gO
                    case measure => have := HK.out; have := HGO.out; omega
                    case rel => exact ⟨i + 1, by have := HK.out; have := HGO.out; omega, by go_num, by rw [HSU.out, HMT.out, HOKJ.out, HCT.out]; rfl, HBM.out⟩
            · have e3 : decide ((rn : Int) ≤ (j : Int)) = true := by simp; omega
              have e3' : decide (rn ≤ j) = true := by simp; omega
              have hok1 : okMay m has k (j : Int) = false := by
                simp only [okMay, decide_eq_false (show ¬ (j : Int) = -1 by omega), decide_eq_false (show ¬ (j : Int) < (m.res.length : Int) by have := HRL.out; omega)]; simp
              have HO := Lib.hid (HNO.out hok1); clear hok1
              have HJ := Lib.hid hjr; clear hjr
              have HB := Lib.hid hB; clear hB
              go_wp2_with fail
              go_quiet (fail)
              go_wp2_with fail
              go_ret
              exact ⟨ret_bool HO.out.symm, below_drewN (HB2.out.trans (HB.out.mono HB2.out.size)) _⟩
      · obtain rfl : k = ln := by have := HK.out; omega
        have hv : mv = true := by
          rw [← HMV.out]; unfold mayB
          rw [HLL.out, HBL.out, HMT.out]; simp
        have HV := Lib.hid hv; clear hv
        have HB := Lib.hid hB; clear hB
        go_wp2_with fail
        go_ret
        exact ⟨ret_bool HV.out.symm, HB2.out.trans (HB.out.mono HB2.out.size)⟩
end Go.Proofs.YtkddkkcfpnndlaaGreatDoor

namespace Go.Proofs.YtkddkkcfpnndlaaGreatDoor
open Go.RowKit Sale

theorem payL_next {m : Mkt} {has : List Int} {k : Nat} (hk : k < has.length) : (payL m has).take (k + 1) = (payL m has).take k ++ [payAt m has k] := by
  rw [List.take_add_one]; unfold payL; rw [tabN_get _ hk]; rfl
theorem payL_bd {m : Mkt} (hm : MOk m) (has : List Int) : ∀ x, x ∈ payL m has → -9223372036854775808 ≤ x ∧ x ≤ 9223372036854775807 := fun x hx => by
  unfold payL tabN at hx
  obtain ⟨i, _, rfl⟩ := List.mem_map.1 hx
  have := payAt_bd hm has i
  omega
theorem mayB_len {m : Mkt} {has : List Int} (h : mayB m has = true) : has.length = m.bids.length := by
  simp only [mayB, Bool.and_eq_true, decide_eq_true_eq] at h
  exact h.1
theorem mayB_item {m : Mkt} (hm : MOk m) {has : List Int} (h : mayB m has = true) : ∀ x, x ∈ has → x < m.res.length := fun x hx => by
  simp only [mayB, Bool.and_eq_true, decide_eq_true_eq] at h
  obtain ⟨i, hi⟩ := List.mem_iff_getElem?.1 hx
  have h1 := List.all_eq_true.1 h.2 i (List.mem_range.2 (List.getElem?_eq_some_iff.1 hi).1)
  rw [List.getD_eq_getElem?_getD, hi, Option.getD_some] at h1
  simp only [okMay, Bool.or_eq_true, Bool.and_eq_true, decide_eq_true_eq] at h1
  have := hm.n1
  omega

set_option maxRecDepth 100000 in
set_option maxHeartbeats 4000000 in
theorem of14_any (ra ba oa la : Option Addr) (rn rc bn bc on oc ln lc : Nat) (m : Mkt) (has : List Int) (w : World) (hm : MktAt w ra ba oa rn rc bn bc on oc m) (hs : Short rn bn on m) (hl : Ints w la ln lc has) :
    Calls Tryz.prog 29 #[.agg #[.slice ra rn rc, .slice ba bn bc, .slice oa on oc], .slice la ln lc] w (PayRes (mcheck m && mayB m has) (payL m has) w) := by
  have hrl := hm.res.len
  have hbl := hm.bids.len
  have hll := hl.len
  have HB0 := Lib.hid (mw_start w ra ba oa rn rc bn bc on oc)
  have hb1 := (mw_kept HB0.out).2.2.2.2
  have HK := Lib.hid (has14_any ra ba oa la rn rc bn bc on oc ln lc m has (mw w ra ba oa rn rc bn bc on oc) (hm.below hb1 (Nat.le_refl _)) hs (hl.below hb1 (Nat.le_refl _)))
  clear hb1
  have HM := Lib.hid hm; clear hm
  have HL := Lib.hid hl; clear hl
  cases hc : (mcheck m && mayB m has) with
  | false =>
    rw [hc] at HK
    clear hc
    go_enter Tryz.func29, Tryz.ntmps29
    go_wp2_with fail
    refine HK.out.mono ?_
    rintro e w1 ⟨rfl, hb⟩
    have HB1 := Lib.hid (mw_below' HB0.out hb); clear hb HK
    go_wp2_with fail
    go_ret2
    exact ⟨none, 0, 0, rfl, Ints.empty _ _ _, (mw_kept HB1.out).2.2.2.2⟩
  | true =>
    rw [hc] at HK
    rw [Bool.and_eq_true] at hc
    have HC := Lib.hid hc.1
    have HMY := Lib.hid hc.2
    clear hc
    have HOK := Lib.hid (mcheck_ok HC.out)
    have hlb := mayB_len HMY.out
    rw [hll, hbl] at hlb
    subst hlb
    have hm8 := HOK.out.m8
    have hm1 := HOK.out.m1
    rw [hbl] at hm8 hm1
    have HBL := Lib.hid hbl; clear hbl
    have HRL := Lib.hid hrl; clear hrl
    have HLL := Lib.hid hll; clear hll
    go_enter Tryz.func29, Tryz.ntmps29
    go_wp2_with fail
    refine HK.out.mono ?_
    rintro e w1 ⟨rfl, hb⟩
    have HB1 := Lib.hid (mw_below' HB0.out hb); clear hb HK
    obtain ⟨c0, c1, c2, hs1, hbw⟩ := mw_kept HB1.out
    have HBW := Lib.hid hbw; clear hbw
    have HL1 := Lib.hid (HL.out.below HBW.out (Nat.le_refl _))
    have HM1 := Lib.hid (HM.out.below HBW.out (Nat.le_refl _))
    go_wp2_with fail
    go_loopg [6, 7] ln (fun g' s6 s7 wr => ∃ (k : Nat) (v6 : Value), k + g' = ln ∧ s7 = .int .i64 k ∧ s6 = v6 ∧ Own wr w1.heap.size v6 ((payL m has).take k) ∧ Below w1.heap.size w1 wr)
    case atStart => exact ⟨0, _, by omega, rfl, rfl, by simp [Own, World.ownsRow], Below.refl _ _⟩
    case round =>
      obtain ⟨k, v6, hk, rfl, hv6, hO, hB⟩ := hrel
      replace hv6 := hv6.symm
      subst hv6
      have HK := Lib.hid hk; clear hk
      have HO := Lib.hid hO; clear hO
      have hbs := hB.size
      have c0w := cell_st hB c0
      have c1w := cell_st hB c1
      have c2w := cell_st hB c2
      by_cases hlt : k < ln
      · obtain ⟨x, hx, _⟩ := HL1.out.get hlt
        obtain ⟨lb, lo, rfl⟩ := HL1.out.addr (by omega)
        have cx := cell_st hB (HL1.out.cell lb lo rfl k x hx)
        have i1 : (k : Int) < (ln : Int) := by omega
        have hgd : has.getD k (-1) = x := by rw [List.getD_eq_getElem?_getD, hx]; rfl
        have hnx := payL_next (m := m) (has := has) (k := k) (by rw [HLL.out]; exact hlt)
        obtain ⟨zs, hzs⟩ : ∃ zs, zs = (payL m has).take k := ⟨_, rfl⟩
        have hzl : zs.length = k := by rw [hzs, List.length_take]; unfold payL; rw [tabN_length, HLL.out]; omega
        rw [← hzs] at HO hnx
        have HZL := Lib.hid hzl; clear hzl hzs
        have HX := Lib.hid hx; clear hx
        by_cases h0 : x < 0
        · have e1 : decide (x < 0) = true := by simpa using h0
          have hpay : payAt m has k = 0 := by unfold payAt; rw [hgd, if_neg (by omega)]
          rw [hpay] at hnx
          have HNX := Lib.hid hnx; clear hnx hpay
          have HB := Lib.hid hB; clear hB
          clear h0 hgd
          go_wp2_with (at_builtin; refine app1 _ rfl _ _ rfl w1.heap.size _ zs rfl (HO.out.alloc _) wr.heap.size 0 1 0 rfl (by simp [go_sem]) (by rw [HZL.out]; omega) (by simp; omega) ?_)
          intro g' cap' w' hown' hgr' hb'
          have HO3 := Lib.hid hown'; clear hown'
          have HB3 := Lib.hid ((HB.out.alloc HB.out.size (.cells #[.int .i64 0] 3)).trans hb'); clear hb' hgr'
          go_wp2_with fail
          go_roundg (gk - 1)
          case measure => have := HK.out; omega
          case rel => exact ⟨k + 1, _, by have := HK.out; omega, by go_num, rfl, by rw [HNX.out]; exact HO3.out, HB3.out⟩
        · have e1 : decide (x < 0) = false := by simpa using h0
          obtain ⟨j, rfl⟩ := Int.eq_ofNat_of_zero_le (show 0 ≤ x by omega)
          have hj := mayB_item HOK.out HMY.out _ (List.mem_of_getElem? HX.out)
          have hjr : j < rn := by rw [← HRL.out]; omega
          obtain ⟨y, hy, _⟩ := HM1.out.res.get hjr
          obtain ⟨rb, ro, rfl⟩ := HM1.out.res.addr (by omega)
          have hpay : payAt m has k = y + lostM m k := by
            unfold payAt
            rw [hgd, if_pos (by omega), Int.toNat_natCast, List.getD_eq_getElem?_getD, hy]; rfl
          have hy6 := HOK.out.res y (List.mem_of_getElem? hy)
          have hlb := lostM_bd HOK.out k
          have hlo := lost14_yes (some ⟨rb, ro, none⟩) ba oa rn rc ln bc on oc k m wr (HM1.out.below hB (Nat.le_refl _)) HC.out hlt
          obtain ⟨lk, hlk⟩ : ∃ lk, lk = lostM m k := ⟨_, rfl⟩
          rw [← hlk] at hlo hlb hpay
          rw [hpay] at hnx
          have HNX := Lib.hid hnx; clear hnx hpay hlk
          have HLO := Lib.hid hlo; clear hlo
          have HY := Lib.hid hy; clear hy
          clear h0 hgd hj
          have HB := Lib.hid hB; clear hB
          go_wp2_with fail
          refine HLO.out.mono ?_
          rintro e w3 ⟨rfl, hb3⟩
          have HB3 := Lib.hid (HB.out.trans (hb3.mono hbs))
          have c0v := cell_st hb3 c0w
          have cxv := cell_st hb3 cx
          have cyv := cell_st HB3.out (HM1.out.res.cell rb ro rfl j y HY.out)
          have HO3 := Lib.hid (HO.out.below hb3 (Nat.le_refl _))
          have hbs3 := hb3.size
          clear hb3 HLO c0w c1w c2w cx
          obtain ⟨l1, l2⟩ := hlb
          obtain ⟨y1, y2⟩ := hy6
          have i2 : (j : Int) < (rn : Int) := by omega
          have e3 : IntKind.i64.wrap (y + lk) = y + lk := IntWalk.i64_in _ (by omega)
          go_wp2_with fail
          go_region_law (first | (refine app1step _ rfl _ _ rfl w1.heap.size v6 zs ?_ ?_ w3.heap.size 0 1 (y + lk) ?_ ?_ k HZL.out ?_ ?_ ?_; (focus go_simp); (focus (repeat (first | exact HO3.out | refine Own.drew ?_ | refine Own.alloc ?_ _))); (focus go_simp); (focus (simp [go_sem])); (focus omega); (focus (simp; omega)); intro va vc w' hown' hb' hgr' hat'; have HOWNA := Lib.hid hown'; have HBA := Lib.hid hb'; clear hown' hb' hgr' hat'))
          all_goals
            go_wp2_with fail
            go_roundg (gk - 1)
            case measure => have := HK.out; omega
            case rel => exact ⟨k + 1, _, by have := HK.out; omega, by go_num, rfl, by rw [HNX.out]; exact HOWNA.out, by first | exact ((HB3.out.alloc HB3.out.size _).drew).trans HBA.out | (trace_state; fail)⟩
      · obtain rfl : k = ln := by have := HK.out; omega
        have hpl : (payL m has).length = k := by unfold payL; rw [tabN_length]; exact HLL.out
        have hO2 := HO.out
        rw [List.take_of_length_le (by omega)] at hO2
        obtain ⟨a6, c6, rfl, hI⟩ := hO2.ints (by omega) (payL_bd HOK.out has)
        rw [hpl] at hI ⊢
        have HI := Lib.hid hI; clear hI hO2
        have HB := Lib.hid hB; clear hB
        go_wp2_with fail
        go_ret2
        exact ⟨_, _, _, rfl, HI.out, HBW.out.trans (HB.out.mono HBW.out.size)⟩
end Go.Proofs.YtkddkkcfpnndlaaGreatDoor
