/- Walks: the law PaymentsNone. -/
import Derived.Test.YtbnjeegicbffeaaPy6
namespace Go.Proofs.Ytbnjeegicbffeaa
open Go.RowKit Sale

theorem hasM_without {m : Mkt} (hm : MOk m) {i : Nat} (hi : i < m.bids.length) : (hasM (withoutM m i))[i]? = some (-1) := by
  have h1 : i < (hasM (withoutM m i)).length := by rw [hasM_length, withoutM_length]; exact hi
  obtain ⟨x, hx⟩ : ∃ x, (hasM (withoutM m i))[i]? = some x := ⟨_, List.getElem?_eq_getElem h1⟩
  by_cases hne : x = -1
  · rw [hx, hne]
  · obtain ⟨k, rfl, hk, _, hg⟩ := (hm.without i).item hx hne
    rw [gi_without hi hk, wipe_same] at hg
    omega
theorem lostM_self {m : Mkt} (hm : MOk m) {i : Nat} (hi : i < m.bids.length) : lostM (withoutM m i) i = 0 :=
  lostM_none (hm.without i) (by rw [withoutM_length]; exact hi) (hasM_without hm hi)
/-- who bids nothing: it is without it already -/
theorem lostM_idle {m : Mkt} {i k : Nat} {b : List Int} (hb : m.bids[i]? = some b) (h : b.length = 0) : lostM m k = lostM (withoutM m i) k := by
  rw [without_self]
  rw [hb, List.eq_nil_of_length_eq_zero h]

/-- what lies in memory through the law -/
structure Two (w : World) (B : Nat) (ra ba oa a1 a2 a3 : Option Addr) (rn rc bn bc on oc : Nat) (m x : Mkt) (wr : World) : Prop where
  base : Below (w.heap.size + 1) (mw w ra ba oa rn rc bn bc on oc) wr
  row : VRow wr B 25 [.slice a1 rn rn, .slice a2 bn bn, .slice a3 on on]
  first : MktAt wr ra ba oa rn rc bn bc on oc m
  mkt : MktAt wr a1 a2 a3 rn rn bn bn on on x
theorem Two.step {w : World} {B : Nat} {ra ba oa a1 a2 a3 : Option Addr} {rn rc bn bc on oc : Nat} {m x : Mkt} {wr wr' : World} (h : Two w B ra ba oa a1 a2 a3 rn rc bn bc on oc m x wr) (hb : Below wr.heap.size wr wr') : Two w B ra ba oa a1 a2 a3 rn rc bn bc on oc m x wr' :=
  ⟨mw_below' h.base hb, h.row.step hb, h.first.below hb (Nat.le_refl _), h.mkt.below hb (Nat.le_refl _)⟩

set_option maxRecDepth 100000 in
set_option maxHeartbeats 2000000 in
theorem paymentsNone_any (ra ba oa : Option Addr) (rn rc bn bc on oc : Nat) (m : Mkt) (bd : Nat) (w : World) (hm : MktAt w ra ba oa rn rc bn bc on oc m) (hbd : bd < 256) :
    Calls Try.prog 19 #[.agg #[.slice ra rn rc, .slice ba bn bc, .slice oa on oc], .int .u8 (bd : Int)] w fun e w' => e = .returned (.bool true) ∧ Below w.heap.size w w' := by
  have HB0 := Lib.hid (mw_start w ra ba oa rn rc bn bc on oc)
  have hm1 := hm.below (mw_kept HB0.out).2.2.2.2 (Nat.le_refl _)
  have HK := Lib.hid (mcheck_any ra ba oa rn rc bn bc on oc m (mw w ra ba oa rn rc bn bc on oc) hm1.res hm1.bids hm1.ord)
  clear hm1
  by_cases hc : mcheck m = true
  · have hok := mcheck_ok hc
    have hbl := hm.bids.len
    have hm1' := hok.m1
    have hm8 := hok.m8
    rw [hbl] at hm1' hm8
    have HM := Lib.hid hm; clear hm
    have HC := Lib.hid hc; clear hc
    have HOK := Lib.hid hok; clear hok
    have HBL := Lib.hid hbl; clear hbl
    have hcv : IntKind.i64.wrap (bd : Int) = (bd : Int) := IntWalk.i64_in _ (by omega)
    go_enter Try.func19, Try.ntmps19
    go_wp2_with fail
    refine HK.out.mono ?_
    rw [HC.out]
    rintro e w1 ⟨rfl, hb⟩
    have HB1 := Lib.hid (mw_below' HB0.out hb); clear hb HK
    obtain ⟨c0, c1, c2, hs1, hbw⟩ := mw_kept HB1.out
    have HBW1 := Lib.hid hbw; clear hbw
    go_wp2_with fail
    obtain ⟨i, hie, hib⟩ : ∃ i : Nat, (bd : Int) % (bn : Int) = (i : Int) ∧ i < bn := ⟨bd % bn, by omega, Nat.mod_lt _ (by omega)⟩
    rw [hie]
    have hiM : i < m.bids.length := by rw [HBL.out]; exact hib
    refine (Without_yes ra ba oa rn rc bn bc on oc i m w1 (HM.out.below HBW1.out (Nat.le_refl _)) HC.out hib).mono ?_
    rintro e w2 ⟨a1, a2, a3, rfl, hm2, hb2⟩
    have hcx := mcheck_of (HOK.out.without i)
    have hself := lostM_self HOK.out hiM
    obtain ⟨bid, hbid⟩ := HM.out.bids.get hib
    have hidle := fun k h => lostM_idle (k := k) hbid h
    obtain ⟨x, hx⟩ : ∃ x, x = withoutM m i := ⟨_, rfl⟩
    rw [← hx] at hm2 hcx hself hidle
    clear hx
    have hal : Below w2.heap.size w2 (w2.alloc (.cells #[.slice a1 rn rn, .slice a2 bn bn, .slice a3 on on] 25)) := (Below.refl _ _).alloc (Nat.le_refl _) _
    have hm0 := (HM.out.below HBW1.out (Nat.le_refl _)).below (hb2.trans (hal.mono hb2.size)) (Nat.le_refl _)
    have H2 := Lib.hid (show Two w w2.heap.size ra ba oa a1 a2 a3 rn rc bn bc on oc m x (w2.alloc (.cells #[.slice a1 rn rn, .slice a2 bn bn, .slice a3 on on] 25)) from
      ⟨mw_below' (mw_below' HB1.out hb2) hal, VRow.new _ _ _, hm0, hm2.below hal (Nat.le_refl _)⟩)
    have HCX := Lib.hid hcx; clear hcx
    have HSELF := Lib.hid hself; clear hself
    have HIDLE := Lib.hid hidle; clear hidle
    have HBID := Lib.hid hbid; clear hbid
    clear hm0 hal hm2 c0 c1 c2 hs1 hb2
    go_wp2_with fail
    refine (Lost_yes a1 a2 a3 rn rn bn bn on on i x _ H2.out.mkt HCX.out hib).mono ?_
    rintro e w3 ⟨rfl, hb3⟩
    rw [HSELF.out]
    have H3 := Lib.hid (H2.out.step hb3); clear hb3
    clear H2
    go_wp2_with fail
    go_loopg [10] bn (fun g' s10 wr => ∃ k : Nat, k + g' = bn ∧ s10 = .int .i64 k ∧ Two w w2.heap.size ra ba oa a1 a2 a3 rn rc bn bc on oc m x wr)
    case atStart => exact ⟨0, by omega, rfl, H3.out⟩
    case round =>
      obtain ⟨k, hk, rfl, hT⟩ := hrel
      obtain ⟨c0, c1, c2, _, _⟩ := mw_kept hT.base
      have HT := Lib.hid hT; clear hT
      have HKK := Lib.hid hk; clear hk
      by_cases hlt : k < bn
      · go_wp2_with fail
        refine (Lost_yes ra ba oa rn rc bn bc on oc k m wr HT.out.first HC.out hlt).mono ?_
        rintro e w4 ⟨rfl, hb4⟩
        have HT4 := Lib.hid (HT.out.step hb4); clear hb4 HT c0 c1 c2
        have c0 := HT4.out.row.cell (k := 0) rfl
        have c1 := HT4.out.row.cell (k := 1) rfl
        have c2 := HT4.out.row.cell (k := 2) rfl
        go_wp2_with fail
        refine (Lost_yes a1 a2 a3 rn rn bn bn on on k x w4 HT4.out.mkt HCX.out hlt).mono ?_
        rintro e w5 ⟨rfl, hb5⟩
        have HT5 := Lib.hid (HT4.out.step hb5); clear hb5 HT4 c0 c1 c2
        obtain ⟨c0, c1, c2, _, _⟩ := mw_kept HT5.out.base
        obtain ⟨bb, bo, rfl⟩ := HT5.out.first.bids.addr (by omega)
        obtain ⟨la, ln, lc, hcl, hli⟩ := HT5.out.first.bids.cell bb bo rfl i bid HBID.out
        have i1 : (i : Int) < (bn : Int) := by omega
        have hll := hli.len
        by_cases hl0 : ln = 0
        · have hid := HIDLE.out k (by omega)
          rw [hid]
          obtain ⟨t, ht⟩ : ∃ t, t = lostM x k := ⟨_, rfl⟩
          rw [← ht]
          clear hid ht hli hll
          subst hl0
          go_wp2_with fail
          go_roundg (gk - 1)
          case measure => have := HKK.out; omega
          case rel => exact ⟨k + 1, by have := HKK.out; omega, by go_num, HT5.out⟩
        · have e1 : ((ln : Int) == 0) = false := by simp; omega
          clear hli hll
          obtain ⟨t, ht⟩ : ∃ t, t = lostM x k := ⟨_, rfl⟩
          obtain ⟨u, hu⟩ : ∃ u, u = lostM m k := ⟨_, rfl⟩
          rw [← ht, ← hu]
          clear ht hu
          go_wp2_with fail
          go_roundg (gk - 1)
          case measure => have := HKK.out; omega
          case rel => exact ⟨k + 1, by have := HKK.out; omega, by go_num, HT5.out⟩
      · obtain rfl : k = bn := by have := HKK.out; omega
        go_wp2_with fail
        refine (lives14_any wr).mono ?_
        rintro e w4 ⟨rfl, hb⟩
        have HT4 := Lib.hid (HT.out.step hb); clear hb
        go_wp2_with fail
        go_ret
        exact ⟨rfl, (mw_kept HT4.out.base).2.2.2.2⟩
  · have hc' : mcheck m = false := by simpa using hc
    rw [hc'] at HK
    clear hc hc' hm
    go_enter Try.func19, Try.ntmps19
    go_wp2_with fail
    refine HK.out.mono ?_
    rintro e w1 ⟨rfl, hb⟩
    have HB1 := Lib.hid (mw_below' HB0.out hb); clear hb HK
    go_wp2_with fail
    refine (lives14_any w1).mono ?_
    rintro e w2 ⟨rfl, hb⟩
    have HB2 := Lib.hid (mw_below' HB1.out hb); clear hb
    go_wp2_with fail
    go_ret
    exact ⟨rfl, (mw_kept HB2.out).2.2.2.2⟩
end Go.Proofs.Ytbnjeegicbffeaa
