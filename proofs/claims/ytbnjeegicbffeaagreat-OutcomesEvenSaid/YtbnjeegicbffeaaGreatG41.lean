/- Walks: the law PaymentsPrices. -/
import Derived.Test.YtbnjeegicbffeaaGreatG26
import Derived.Test.YtbnjeegicbffeaaGreatG28
import Derived.Test.YtbnjeegicbffeaaGreatG24
/- Walks: the law PaymentsPrices. -/
namespace Go.Proofs.YtbnjeegicbffeaaGreat
open Go.RowKit Sale

theorem mayB_has {m : Mkt} (hm : MOk m) : mayB m (hasM m) = true := by
  unfold mayB mayTo
  rw [decide_eq_true (hasM_length m), Bool.true_and, List.all_eq_true]
  intro i hi
  have hil : i < (hasM m).length := List.mem_range.1 hi
  have hx := getD_some hil (-1)
  unfold okMay
  by_cases hne : (hasM m).getD i (-1) = -1
  · rw [decide_eq_true hne]; rfl
  · obtain ⟨k, hk, hkn, hs, hg⟩ := hm.item hx hne
    rw [hk] at hx ⊢
    rw [decide_eq_true (p := (0 : Int) ≤ (k : Int)) (by omega), decide_eq_true (p := (k : Int) < (m.res.length : Int)) (by omega), Int.toNat_natCast, decide_eq_true hg]
    have hno : ((hasM m).take i).contains (k : Int) = false := by
      rw [Bool.eq_false_iff]
      intro hc
      have hm2 : (k : Int) ∈ (hasM m).take i := by simpa using hc
      obtain ⟨j, hj⟩ := List.mem_iff_getElem?.1 hm2
      have hji : j < i := by
        rcases Nat.lt_or_ge j i with h | h
        · exact h
        · rw [List.getElem?_take_eq_none h] at hj; cases hj
      rw [List.getElem?_take_of_lt hji] at hj
      have e1 : slotOf (hasM m) j = some k := by rw [slot_of hj, if_neg (by omega)]; simp
      have hl := hasM_length m
      have := hm.fits.toInj.one j (by omega) i (by omega) k e1 hs
      omega
    rw [hno]; simp
/-- what is paid, of who has the first of the best -/
theorem payL_has {m : Mkt} (hm : MOk m) (hc : mcheck m = true) {i : Nat} {x : Int} (hx : (hasM m)[i]? = some x) : (payL m (hasM m))[i]? = some (if x = -1 then 0 else (leastM m).getD x.toNat 0) := by
  have hil : i < (hasM m).length := (List.getElem?_eq_some_iff.1 hx).1
  have hg : (hasM m).getD i (-1) = x := getD_at hx
  have hl := hasM_length m
  unfold payL tabN
  rw [List.getElem?_map, List.getElem?_range hil, Option.map_some]
  unfold payAt
  rw [hg]
  by_cases hne : x = -1
  · rw [if_neg (by omega), if_pos hne]
  · obtain ⟨k, rfl, hkn, hs, _⟩ := hm.item hx hne
    rw [if_pos (by omega), if_neg hne, Int.toNat_natCast, pay_is hm hc (by omega) hs]
theorem payL_len (m : Mkt) (has : List Int) : (payL m has).length = has.length := tabN_length _ _

set_option maxRecDepth 100000 in
set_option maxHeartbeats 4000000 in
theorem paymentsPrices_any (ra ba oa : Option Addr) (rn rc bn bc on oc : Nat) (m : Mkt) (w : World) (hm : MktAt w ra ba oa rn rc bn bc on oc m) :
    Calls Tryz.prog 9 #[.agg #[.slice ra rn rc, .slice ba bn bc, .slice oa on oc]] w fun e w' => e = .returned (.bool true) ∧ Below w.heap.size w w' := by
  have HB0 := Lib.hid (mw_start w ra ba oa rn rc bn bc on oc)
  have hm1 := hm.below (mw_kept HB0.out).2.2.2.2 (Nat.le_refl _)
  by_cases hc : mcheck m = true
  · have HG := Lib.hid (Gains_yes ra ba oa rn rc bn bc on oc m (mw w ra ba oa rn rc bn bc on oc) hm1 hc)
    have hok := mcheck_ok hc
    have hbl := hm.bids.len
    have hrl := hm.res.len
    have hm8 := hok.m8
    have hn8 := hok.n8
    rw [hbl] at hm8
    rw [hrl] at hn8
    have HM := Lib.hid hm; clear hm hm1
    have HC := Lib.hid hc; clear hc
    have HOK := Lib.hid hok; clear hok
    have HBL := Lib.hid hbl; clear hbl
    have HRL := Lib.hid hrl; clear hrl
    go_enter Tryz.func9, Tryz.ntmps9
    go_wp2_with fail
    refine HG.out.mono ?_
    rintro e w1 ⟨ga, rfl, hg, hb⟩
    have HB1 := Lib.hid (mw_below' HB0.out hb); clear hb HG
    obtain ⟨c0, c1, c2, hs1, hbw⟩ := mw_kept HB1.out
    have hF := FirstM HOK.out ga oa bn bn on oc w1 hg (HM.out.ord.below hbw (Nat.le_refl _))
    rw [HRL.out] at hF
    have HF := Lib.hid hF; clear hF hg hbw
    go_wp2_with fail
    refine HF.out.mono ?_
    rintro e w2 ⟨ha, hn, hcp, rfl, hi2, hb2⟩
    have hhn : hn = bn := by rw [← hi2.len, hasM_length]; exact HBL.out
    subst hhn
    clear HF c0 c1 c2 hs1
    have HB2 := Lib.hid (mw_below' HB1.out hb2); clear hb2
    have HI2 := Lib.hid hi2; clear hi2
    obtain ⟨c0, c1, c2, hs2, hbw⟩ := mw_kept HB2.out
    have hP := PayOf_any ra ba oa ha rn rc hn bc on oc hn hcp m (hasM m) w2 (HM.out.below hbw (Nat.le_refl _)) HI2.out
    rw [HC.out, mayB_has HOK.out] at hP
    have HP := Lib.hid hP; clear hP hbw
    go_wp2_with fail
    refine HP.out.mono ?_
    rintro e w3 ⟨la, ln, lc, rfl, hi3, hb3⟩
    have hln : ln = hn := by rw [← hi3.len, payL_len, hasM_length]; exact HBL.out
    subst hln
    clear HP c0 c1 c2 hs2
    have HB3 := Lib.hid (mw_below' HB2.out hb3)
    have HI2' := Lib.hid (HI2.out.below hb3 (Nat.le_refl _)); clear hb3 HI2
    have HI3 := Lib.hid hi3; clear hi3
    obtain ⟨c0, c1, c2, hs3, hbw⟩ := mw_kept HB3.out
    have HL := Lib.hid (Least_yes ra ba oa rn rc ln bc on oc m w3 (HM.out.below hbw (Nat.le_refl _)) HC.out)
    clear hbw
    go_wp2_with fail
    refine HL.out.mono ?_
    rintro e w4 ⟨pa, pn, rfl, hi4, hb4⟩
    have hpn : pn = rn := by rw [← hi4.len, (leastM_on HOK.out).len]; exact HRL.out
    subst hpn
    clear HL c0 c1 c2 hs3
    have HB4 := Lib.hid (mw_below' HB3.out hb4)
    have HI2 := Lib.hid (HI2'.out.below hb4 (Nat.le_refl _))
    have HI3' := Lib.hid (HI3.out.below hb4 (Nat.le_refl _)); clear hb4 HI2' HI3
    have HI4 := Lib.hid hi4; clear hi4
    obtain ⟨c0, c1, c2, hs4, hbw⟩ := mw_kept HB4.out
    have HBW := Lib.hid hbw; clear hbw
    go_wp2_with fail
    clear c0 c1 c2
    go_loopg [11] ln (fun g' s11 wr => ∃ (i : Nat), i + g' = ln ∧ s11 = .int .i64 i ∧ Below w4.heap.size w4 wr)
    case atStart => exact ⟨0, by omega, rfl, Below.refl _ _⟩
    case round =>
      obtain ⟨i, hi, rfl, hb5⟩ := hrel
      have HI := Lib.hid hi; clear hi
      by_cases hlt : i < ln
      · have h2 := HI2.out.below hb5 (Nat.le_refl _)
        have h3 := HI3'.out.below hb5 (Nat.le_refl _)
        have h4 := HI4.out.below hb5 (Nat.le_refl _)
        obtain ⟨x, hx, _⟩ := h2.get hlt
        have hy := payL_has HOK.out HC.out hx
        obtain ⟨xb, xo, rfl⟩ := h2.addr (by omega)
        obtain ⟨lb, lo, rfl⟩ := h3.addr (by omega)
        have cx := h2.cell xb xo rfl i x hx
        have cy := h3.cell lb lo rfl i _ hy
        have i0 : (0 : Int) ≤ (i : Int) := by omega
        have i1 : (i : Int) < (ln : Int) := by omega
        have HB5 := Lib.hid hb5; clear hb5
        by_cases hne : x = -1
        · rw [if_pos hne] at cy
          have e1 : (x == -1) = true := by simp [hne]
          have e2 : (x != -1) = false := by simp [hne]
          clear hx hy h2 h3 h4 hne
          go_wp2_with fail
          go_quiet (fail)
          go_wp2_with fail
          go_roundg (gk - 1)
          case measure => have := HI.out; omega
          case rel => exact ⟨i + 1, by have := HI.out; omega, by go_num, below_drewN HB5.out _⟩
        · rw [if_neg hne] at cy
          obtain ⟨k, hk, hkn, _, _⟩ := HOK.out.item hx hne
          have hkp : k < pn := by have := HRL.out; omega
          have hz := getD_some (l := leastM m) (k := k) (by rw [h4.len]; exact hkp) 0
          obtain ⟨pb, po, rfl⟩ := h4.addr (by omega)
          have cz := h4.cell pb po rfl k _ hz
          subst hk
          rw [Int.toNat_natCast] at cy
          obtain ⟨z, hzz⟩ : ∃ z, z = (leastM m).getD k 0 := ⟨_, rfl⟩
          rw [← hzz] at cy cz
          have e1 : ((k : Int) == -1) = false := by simp
          have e2 : ((k : Int) != -1) = true := by simp
          have e3 : (z != z) = false := by simp
          have k0 : (0 : Int) ≤ (k : Int) := by omega
          have k1 : (k : Int) < (pn : Int) := by omega
          clear hx hy h2 h3 h4 hne hz hzz hkn
          go_wp2_with fail
          go_quiet (fail)
          go_wp2_with fail
          go_roundg (gk - 1)
          case measure => have := HI.out; omega
          case rel => exact ⟨i + 1, by have := HI.out; omega, by go_num, below_drewN HB5.out _⟩
      · obtain rfl : i = ln := by have := HI.out; omega
        have HB5 := Lib.hid hb5; clear hb5
        go_wp2_with fail
        refine (lives14_any wr).mono ?_
        rintro e w5 ⟨rfl, hb⟩
        have HB6 := Lib.hid hb; clear hb
        go_wp2_with fail
        go_ret
        exact ⟨rfl, HBW.out.trans ((HB5.out.trans (HB6.out.mono HB5.out.size)).mono HBW.out.size)⟩
  · have HC := Lib.hid (Gains_no ra ba oa rn rc bn bc on oc m (mw w ra ba oa rn rc bn bc on oc) hm1 (by simpa using hc))
    clear hm hm1
    go_enter Tryz.func9, Tryz.ntmps9
    go_wp2_with fail
    refine HC.out.mono ?_
    rintro e w1 ⟨rfl, hb⟩
    have HB1 := Lib.hid (mw_below' HB0.out hb); clear hb HC
    go_wp2_with fail
    refine (lives14_any w1).mono ?_
    rintro e w2 ⟨rfl, hb⟩
    have HB2 := Lib.hid (mw_below' HB1.out hb); clear hb
    go_wp2_with fail
    go_ret
    exact ⟨rfl, (mw_kept HB2.out).2.2.2.2⟩
end Go.Proofs.YtbnjeegicbffeaaGreat
