/- Walks: the law PaymentsAlone. -/
import Derived.Test.YtbnjeegicbffeaaPy6
namespace Go.Proofs.Ytbnjeegicbffeaa
open Go.RowKit Sale

/-- by this item and this bidder it bids alone -/
def alB (m : Mkt) (i b t : Nat) : Bool := decide (b = i) || (decide (gi (gainsM m) b t < 0) || decide (gi (gainsM m) i t < 0))
def alRow (m : Mkt) (i b k : Nat) : Bool := (List.range k).all (alB m i b)
def alTo (m : Mkt) (i b : Nat) : Bool := (List.range b).all fun c => alRow m i c m.res.length
theorem alRow_succ (m : Mkt) (i b k : Nat) : alRow m i b (k + 1) = (alRow m i b k && alB m i b k) := by unfold alRow; rw [List.range_succ, List.all_append]; simp
theorem alTo_succ (m : Mkt) (i b : Nat) : alTo m i (b + 1) = (alTo m i b && alRow m i b m.res.length) := by unfold alTo; rw [List.range_succ, List.all_append]; simp
theorem lostM_alone {m : Mkt} (hm : MOk m) {i : Nat} (hi : i < m.bids.length) (h : alTo m i m.bids.length = true) : lostM m i = 0 := by
  rw [lostM_is hm hi]
  refine lost_alone hm.fits hm.best hi fun b hb hne k hk => ?_
  have h1 := List.all_eq_true.1 h b (List.mem_range.2 hb)
  have h2 := List.all_eq_true.1 h1 k (List.mem_range.2 hk)
  simp only [alB, Bool.or_eq_true, decide_eq_true_eq] at h2
  omega
theorem bestVal_without {m : Mkt} (_hm : MOk m) (i : Nat) : bestVal (gainsM (withoutM m i)) m.res.length ≤ bestVal (gainsM m) m.res.length := by
  unfold bestVal
  rw [gainsM_length, gainsM_length, withoutM_length]
  rw [opt_congr (g := gi (gainsM (withoutM m i))) (g' := wipe (gi (gainsM m)) i) (n := m.res.length) (List.range m.bids.length) (fun l hl r hr => gi_without (List.mem_range.1 hl) hr) (fun _ _ => rfl)]
  exact opt_wipe_le i _ _ List.nodup_range
theorem lostM_le {m : Mkt} (hm : MOk m) (i : Nat) : lostM m i ≤ bestVal (gainsM (withoutM m i)) m.res.length := by
  have h := others_nonneg hm.fits i
  unfold lostM
  unfold others at h
  unfold oTo
  omega

set_option maxRecDepth 100000 in
set_option maxHeartbeats 2000000 in
theorem paymentsAlone_any (ra ba oa : Option Addr) (rn rc bn bc on oc : Nat) (m : Mkt) (bd : Nat) (w : World) (hm : MktAt w ra ba oa rn rc bn bc on oc m) (hbd : bd < 256) :
    Calls Try.prog 18 #[.agg #[.slice ra rn rc, .slice ba bn bc, .slice oa on oc], .int .u8 (bd : Int)] w fun e w' => e = .returned (.bool true) ∧ Below w.heap.size w w' := by
  have HB0 := Lib.hid (mw_start w ra ba oa rn rc bn bc on oc)
  have hm1 := hm.below (mw_kept HB0.out).2.2.2.2 (Nat.le_refl _)
  by_cases hc : mcheck m = true
  · have HG := Lib.hid (Gains_yes ra ba oa rn rc bn bc on oc m (mw w ra ba oa rn rc bn bc on oc) hm1 hc)
    have hok := mcheck_ok hc
    have hbl := hm.bids.len
    have hrl := hm.res.len
    have hm1' := hok.m1
    have hm8 := hok.m8
    have hn8 := hok.n8
    rw [hbl] at hm1' hm8
    rw [hrl] at hn8
    have HM := Lib.hid hm; clear hm hm1
    have HC := Lib.hid hc; clear hc
    have HOK := Lib.hid hok; clear hok
    have HBL := Lib.hid hbl; clear hbl
    have HRL := Lib.hid hrl; clear hrl
    have hcv : IntKind.i64.wrap (bd : Int) = (bd : Int) := IntWalk.i64_in _ (by omega)
    go_enter Try.func18, Try.ntmps18
    go_wp2_with fail
    refine HG.out.mono ?_
    rintro e w1 ⟨ga, rfl, hg, hb⟩
    have HB1 := Lib.hid (mw_below' HB0.out hb); clear hb HG
    have HG := Lib.hid hg; clear hg
    obtain ⟨c0, c1, c2, hs1, hbw⟩ := mw_kept HB1.out
    have HBW1 := Lib.hid hbw; clear hbw
    go_wp2_with fail
    obtain ⟨i, hie, hib⟩ : ∃ i : Nat, (bd : Int) % (bn : Int) = (i : Int) ∧ i < bn := ⟨bd % bn, by omega, Nat.mod_lt _ (by omega)⟩
    rw [hie]
    have hiM : i < m.bids.length := by rw [HBL.out]; exact hib
    refine (Without_yes ra ba oa rn rc bn bc on oc i m w1 (HM.out.below HBW1.out (Nat.le_refl _)) HC.out hib).mono ?_
    rintro e w2 ⟨a1, a2, a3, rfl, hm2, hb2⟩
    have hcx := mcheck_of (HOK.out.without i)
    have hwx := (HOK.out.without i).wcheck
    have hle := bestVal_without HOK.out i
    have hlo := lostM_le HOK.out i
    have hal := lostM_alone HOK.out hiM
    have hbx := bestVal_bd (HOK.out.without i)
    have hwm := HOK.out.wcheck
    have hbm := bestVal_bd HOK.out
    have hL0 := lostM_nonneg HOK.out hiM
    rw [show (withoutM m i).res.length = rn from HRL.out] at hwx hbx
    rw [HRL.out] at hle hlo hwm hbm
    obtain ⟨x, hx⟩ : ∃ x, x = withoutM m i := ⟨_, rfl⟩
    rw [← hx] at hm2 hcx hle hlo hwx hbx
    clear hx
    have hal2 : Below w2.heap.size w2 (w2.alloc (.cells #[.slice a1 rn rn, .slice a2 bn bn, .slice a3 on on] 25)) := (Below.refl _ _).alloc (Nat.le_refl _) _
    have HMX := Lib.hid (hm2.below hal2 (Nat.le_refl _)); clear hm2
    have HG2 := Lib.hid (HG.out.step (hb2.trans (hal2.mono hb2.size))); clear HG
    have HB2 := Lib.hid (mw_below' (mw_below' HB1.out hb2) hal2); clear hb2 hal2
    have HCX := Lib.hid hcx; clear hcx
    have HAL := Lib.hid hal; clear hal
    have HWX := Lib.hid hwx; clear hwx
    have HWM := Lib.hid hwm; clear hwm
    clear c0 c1 c2 hs1
    go_wp2_with fail
    refine (Gains_yes a1 a2 a3 rn rn bn bn on on x _ HMX.out HCX.out).mono ?_
    rintro e w3 ⟨gx, rfl, hg3, hb3⟩
    have HB3 := Lib.hid (mw_below' HB2.out hb3)
    have HG3 := Lib.hid (HG2.out.step hb3); clear hb3 HG2
    have HX3 := Lib.hid hg3; clear hg3
    obtain ⟨c0, c1, c2, hs3, hbw⟩ := mw_kept HB3.out
    have HBW3 := Lib.hid hbw; clear hbw
    go_wp2_with fail
    refine (Best_any ga bn bn (gainsM m) rn w3 HG3.out).mono ?_
    rw [if_pos HWM.out, if_pos HWM.out, Int.toNat_natCast]
    rintro e w4 ⟨rfl, hb4⟩
    have HB4 := Lib.hid (mw_below' HB3.out hb4)
    have HG4 := Lib.hid (HG3.out.step hb4); clear HG3
    have HX4 := Lib.hid (HX3.out.step hb4); clear hb4 HX3
    clear c0 c1 c2 hs3
    obtain ⟨c0, c1, c2, hs4, hbw⟩ := mw_kept HB4.out
    clear hbw
    go_wp2_with fail
    refine (Best_any gx bn bn (gainsM x) rn w4 HX4.out).mono ?_
    rw [if_pos HWX.out, if_pos HWX.out, Int.toNat_natCast]
    rintro e w5 ⟨rfl, hb5⟩
    have HB5 := Lib.hid (mw_below' HB4.out hb5)
    have HG5 := Lib.hid (HG4.out.step hb5); clear HG4 hb5 HX4
    clear c0 c1 c2 hs4
    obtain ⟨c0, c1, c2, hs5, hbw⟩ := mw_kept HB5.out
    have HBW5 := Lib.hid hbw; clear hbw
    obtain ⟨bm, hbm'⟩ : ∃ bm, bm = bestVal (gainsM m) rn := ⟨_, rfl⟩
    obtain ⟨bx, hbx'⟩ : ∃ bx, bx = bestVal (gainsM x) rn := ⟨_, rfl⟩
    rw [← hbm'] at hle hbm ⊢
    rw [← hbx'] at hle hlo hbx ⊢
    clear hbm' hbx'
    go_wp2_with fail
    refine (Lost_yes ra ba oa rn rc bn bc on oc i m w5 (HM.out.below HBW5.out (Nat.le_refl _)) HC.out hib).mono ?_
    rintro e w6 ⟨rfl, hb6⟩
    obtain ⟨t, ht⟩ : ∃ t, t = lostM m i := ⟨_, rfl⟩
    rw [← ht] at hlo HAL hL0 ⊢
    clear ht
    have HB6 := Lib.hid (mw_below' HB5.out hb6)
    have HG6 := Lib.hid (HG5.out.step hb6); clear HG5 hb6
    clear c0 c1 c2 hs5
    obtain ⟨c0, c1, c2, hs6, hbw⟩ := mw_kept HB6.out
    have HBW6 := Lib.hid hbw; clear hbw
    go_wp2_with fail
    clear c0 c1 c2
    go_loopg [18, 19] bn (fun g' s18 s19 wr => ∃ b : Nat, b + g' = bn ∧ s19 = .int .i64 b ∧ s18 = .bool (alTo m i b) ∧ wr = w6)
    case atStart => exact ⟨0, by omega, rfl, rfl, rfl⟩
    case round =>
      obtain ⟨b, hb, rfl, rfl, rfl⟩ := hrel
      have HB := Lib.hid hb; clear hb
      by_cases hlt : b < bn
      · obtain ⟨row, hrow⟩ := HG6.out.get hlt
        obtain ⟨rowi, hrowi⟩ := HG6.out.get hib
        obtain ⟨gb, go', rfl⟩ := HG6.out.addr (by omega)
        obtain ⟨la, ln, lc, hcl, hli⟩ := HG6.out.cell gb go' rfl b row hrow
        obtain ⟨ia, in', ic, hci, hii⟩ := HG6.out.cell gb go' rfl i rowi hrowi
        have hln : ln = rn := by have h1 := HOK.out.rows.1 row (List.mem_of_getElem? hrow); have := hli.len; have := HRL.out; omega
        have hin : in' = rn := by have h1 := HOK.out.rows.1 rowi (List.mem_of_getElem? hrowi); have := hii.len; have := HRL.out; omega
        subst hln
        subst hin
        have i1 : (b : Int) < (bn : Int) := by omega
        have i2 : (i : Int) < (bn : Int) := by omega
        have HLI := Lib.hid hli; clear hli
        have HII := Lib.hid hii; clear hii
        have HROW := Lib.hid hrow; clear hrow
        have HROWI := Lib.hid hrowi; clear hrowi
        have hsucc := alTo_succ m i b
        rw [HRL.out] at hsucc
        have HSUCC := Lib.hid hsucc; clear hsucc
        obtain ⟨acc, hacc⟩ : ∃ acc, acc = alTo m i b := ⟨_, rfl⟩
        rw [← hacc] at HSUCC ⊢
        clear hacc
        go_wp2_with fail
        obtain ⟨go, rfl⟩ : ∃ go : Nat, go = gk := ⟨_, rfl⟩
        obtain ⟨wo, rfl⟩ : ∃ wo : World, wo = wr := ⟨_, rfl⟩
        go_loopg [18, 20] in' (fun g' s18 s20 wr => ∃ k : Nat, k + g' = in' ∧ s20 = .int .i64 k ∧ s18 = .bool (acc && alRow m i b k) ∧ wr = wo)
        case atStart => exact ⟨0, by omega, rfl, by simp [alRow], rfl⟩
        case round =>
          obtain ⟨k, hk, rfl, rfl, rfl⟩ := hrel
          have HKK := Lib.hid hk; clear hk
          by_cases hltk : k < in'
          · obtain ⟨y, hy, _⟩ := HLI.out.get hltk
            obtain ⟨z, hz, _⟩ := HII.out.get hltk
            obtain ⟨lb, lo, rfl⟩ := HLI.out.addr (by omega)
            obtain ⟨ib, io, rfl⟩ := HII.out.addr (by omega)
            have cy := HLI.out.cell lb lo rfl k y hy
            have cz := HII.out.cell ib io rfl k z hz
            have hgy : gi (gainsM m) b k = y := gi_at HROW.out hy
            have hgz : gi (gainsM m) i k = z := gi_at HROWI.out hz
            have hs := alRow_succ m i b k
            unfold alB at hs
            rw [hgy, hgz] at hs
            have i3 : (k : Int) < (in' : Int) := by omega
            obtain ⟨ac2, hac2⟩ : ∃ ac2, ac2 = alRow m i b k := ⟨_, rfl⟩
            rw [← hac2] at hs ⊢
            have HS := Lib.hid hs
            clear hac2 hgy hgz hy hz hs
            obtain ⟨ac3, hac3⟩ : ∃ ac3, ac3 = (acc && ac2) := ⟨_, rfl⟩
            have HS2 := Lib.hid (show (acc && alRow m i b (k + 1)) = (ac3 && (decide (b = i) || (decide (y < 0) || decide (z < 0)))) from by rw [HS.out, hac3, Bool.and_assoc])
            rw [← hac3]
            clear hac3 HS
            cases ac3 with
            | false =>
              go_wp2_with fail
              go_roundg (gk - 1)
              case measure => have := HKK.out; omega
              case rel => exact ⟨k + 1, by have := HKK.out; omega, by go_num, by rw [HS2.out]; rfl, rfl⟩
            | true =>
              by_cases hbi : b = i
              · have e1 : ((b : Int) == (i : Int)) = true := by simp [hbi]
                rw [decide_eq_true hbi] at HS2
                have HBI := Lib.hid hbi; clear hbi
                go_wp2_with fail
                go_roundg (gk - 1)
                case measure => have := HKK.out; omega
                case rel => exact ⟨k + 1, by have := HKK.out; omega, by go_num, by rw [HS2.out]; rfl, rfl⟩
              · have e1 : ((b : Int) == (i : Int)) = false := by simp; omega
                rw [decide_eq_false hbi] at HS2
                have HBI := Lib.hid hbi; clear hbi
                by_cases hy0 : y < 0
                · have e2 : decide (y < 0) = true := by simpa using hy0
                  rw [e2] at HS2
                  go_wp2_with fail
                  go_roundg (gk - 1)
                  case measure => have := HKK.out; omega
                  case rel => exact ⟨k + 1, by have := HKK.out; omega, by go_num, by rw [HS2.out]; rfl, rfl⟩
                · have e2 : decide (y < 0) = false := by simpa using hy0
                  rw [e2] at HS2
                  obtain ⟨dz, hdz⟩ : ∃ dz, decide (z < 0) = dz := ⟨_, rfl⟩
                  rw [hdz] at HS2
                  go_wp2_with fail
                  go_roundg (gk - 1)
                  case measure => have := HKK.out; omega
                  case rel => exact ⟨k + 1, by have := HKK.out; omega, by go_num, by rw [HS2.out]; simp, rfl⟩
          · obtain rfl : k = in' := by have := HKK.out; omega
            rw [← HSUCC.out]
            go_wp2_with fail
            go_roundg (go - 1)
            case measure => have := HB.out; omega
            case rel => exact ⟨b + 1, by have := HB.out; omega, by go_num, rfl, rfl⟩
      · obtain rfl : b = bn := by have := HB.out; omega
        rw [HBL.out] at HAL
        have e1 : decide (bx ≤ bm) = true := by simpa using hle
        have e2 : decide (t ≤ bx) = true := by simpa using hlo
        obtain ⟨acc, hacc⟩ : ∃ acc, acc = alTo m i b := ⟨_, rfl⟩
        rw [← hacc] at HAL ⊢
        clear hacc
        cases acc with
        | true =>
          have ht0 := HAL.out rfl
          subst ht0
          go_wp2_with fail
          refine (lives14_any wr).mono ?_
          rintro e w7 ⟨rfl, hb⟩
          have HB7 := Lib.hid (mw_below' HB6.out hb); clear hb
          go_wp2_with fail
          go_ret
          exact ⟨rfl, (mw_kept HB7.out).2.2.2.2⟩
        | false =>
          go_wp2_with fail
          refine (lives14_any wr).mono ?_
          rintro e w7 ⟨rfl, hb⟩
          have HB7 := Lib.hid (mw_below' HB6.out hb); clear hb
          go_wp2_with fail
          go_ret
          exact ⟨rfl, (mw_kept HB7.out).2.2.2.2⟩
  · have HC := Lib.hid (Gains_no ra ba oa rn rc bn bc on oc m (mw w ra ba oa rn rc bn bc on oc) hm1 (by simpa using hc))
    clear hm hm1
    go_enter Try.func18, Try.ntmps18
    go_wp2_with fail
    refine HC.out.mono ?_
    rintro e w1 ⟨rfl, hb⟩
    have HB1 := Lib.hid (mw_below' HB0.out hb); clear hb HC
    go_wp2_with fail
    refine (lives14_any w1).mono ?_
    rintro e w2 ⟨rfl, hb⟩
    have HB2 := Lib.hid (mw_below' HB1.out hb); clear hb
    go_wp2_with fail
    go_ret
    exact ⟨rfl, (mw_kept HB2.out).2.2.2.2⟩
end Go.Proofs.Ytbnjeegicbffeaa
