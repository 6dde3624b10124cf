/- Walks: payments.Of. -/
import Derived.Test.YtbnjeegicbffeaaPy3
namespace Go.Proofs.Ytbnjeegicbffeaa
open Go.RowKit Sale

/-- may items be had so? -/
def okMay (m : Mkt) (has : List Int) (i : Nat) (x : Int) : Bool := decide (x = -1) || (decide (0 ≤ x) && decide (x < m.res.length) && decide (0 ≤ gi (gainsM m) i x.toNat) && !(has.take i).contains x)
def mayTo (m : Mkt) (has : List Int) (k : Nat) : Bool := (List.range k).all fun i => okMay m has i (has.getD i (-1))
def mayB (m : Mkt) (has : List Int) : Bool := decide (has.length = m.bids.length) && mayTo m has has.length
theorem mayTo_succ {m : Mkt} {has : List Int} {k : Nat} {x : Int} (hx : has[k]? = some x) : mayTo m has (k + 1) = (mayTo m has k && okMay m has k x) := by
  simp [mayTo, List.range_succ, List.all_append, hx]
theorem mayTo_no {m : Mkt} {has : List Int} {k n : Nat} {x : Int} (hx : has[k]? = some x) (hk : k < n) (ho : okMay m has k x = false) : mayTo m has n = false := by
  unfold mayTo
  rw [List.all_eq_false]
  exact ⟨k, List.mem_range.2 hk, by rw [List.getD_eq_getElem?_getD, hx, Option.getD_some, ho]; simp⟩
theorem Ints.take {w : World} {a : Option Addr} {n c : Nat} {xs : List Int} (h : Ints w a n c xs) {k : Nat} (hk : k ≤ n) : Ints w a k c (xs.take k) :=
  ⟨by rw [List.length_take, h.len]; omega, Nat.le_trans hk h.cap, by have := h.big; omega, fun h0 => h.addr (by omega), fun b o e j x hx => by
    have hj : j < k := by have := (List.getElem?_eq_some_iff.1 hx).1; simp at this; omega
    rw [List.getElem?_take_of_lt hj] at hx
    exact h.cell b o e j x hx, fun x hx => h.bd x (List.mem_of_mem_take hx), fun e => by have := h.nil e; omega⟩

set_option maxRecDepth 100000 in
set_option maxHeartbeats 4000000 in
theorem may_any (Bk : Nat) (ra ba oa ga ha la : Option Addr) (rn rc bn bc on oc gc hc ln lc : Nat) (m : Mkt) (has : List Int) (w : World) (hb : BookAt w Bk ra ba oa ga ha rn rc bn bc on oc gc hc m) (hok : MOk m)
    (hl : Ints w la ln lc has) :
    Calls Try.prog 79 #[.pointer (some ⟨Bk, 0, none⟩), .slice la ln lc] w fun e w' => e = .returned (.bool (mayB m has)) ∧ w = w' := by
  have hbl := hb.mkt.bids.len
  have hrl := hb.mkt.res.len
  have hm8 := hok.m8
  rw [hbl] at hm8
  have hll := hl.len
  have hlb := hl.big
  have c0 := hb.row.cell (k := 0) rfl
  have c1 := hb.row.cell (k := 1) rfl
  have c3 := hb.row.cell (k := 3) rfl
  have HB := Lib.hid hb; clear hb
  have HOK := Lib.hid hok; clear hok
  have HBL := Lib.hid hbl; clear hbl
  have HRL := Lib.hid hrl; clear hrl
  have HL := Lib.hid hl; clear hl
  have HLL := Lib.hid hll; clear hll
  by_cases hlen : ln = bn
  · subst hlen
    go_enter Try.func79, Try.ntmps79
    go_wp2_with fail
    go_loopg [18] ln (fun g' s18 wr => ∃ k : Nat, k + g' = ln ∧ s18 = .int .i64 k ∧ mayTo m has k = true ∧ wr = w)
    case atStart => exact ⟨0, by omega, rfl, rfl, rfl⟩
    case round =>
      obtain ⟨k, hk, rfl, hM, rfl⟩ := hrel
      have HK := Lib.hid hk; clear hk
      have HM := Lib.hid hM; clear hM
      by_cases hlt : k < ln
      · obtain ⟨x, hx, _⟩ := HL.out.get hlt
        obtain ⟨lb, lo, rfl⟩ := HL.out.addr (by omega)
        have cx := HL.out.cell lb lo rfl k x hx
        have hsu := mayTo_succ (m := m) hx
        have hno := fun h => (show mayB m has = false by unfold mayB; rw [mayTo_no hx (n := has.length) (by rw [HLL.out]; exact hlt) h, Bool.and_false])
        have HNO := Lib.hid hno; clear hno
        have HSU := Lib.hid hsu; clear hsu
        have HX := Lib.hid hx; clear hx
        by_cases h1 : x = -1
        · have e1 : (x != -1) = false := by simp [h1]
          have hok1 : okMay m has k x = true := by simp [okMay, h1]
          have HO := Lib.hid hok1; clear hok1
          have H1 := Lib.hid h1; clear h1
          go_wp2_with fail
          go_roundg (gk - 1)
          case measure => have := HK.out; omega
          case rel => exact ⟨k + 1, by have := HK.out; omega, by go_num, by rw [HSU.out, HM.out, HO.out]; rfl, rfl⟩
        · have e1 : (x != -1) = true := by simp [h1]
          by_cases hneg : x < 0
          · have e2 : decide (x < 0) = true := by simpa using hneg
            have hok1 : okMay m has k x = false := by simp [okMay, h1]; omega
            have HO := Lib.hid hok1; clear hok1
            have H1 := Lib.hid h1; clear h1
            have HN := Lib.hid hneg; clear hneg
            go_wp2_with fail
            go_ret
            exact ⟨ret_bool (HNO.out HO.out).symm, rfl⟩
          · obtain ⟨j, rfl⟩ := Int.eq_ofNat_of_zero_le (show 0 ≤ x by omega)
            have e2 : decide ((j : Int) < 0) = false := by simp
            have H1 := Lib.hid h1; clear h1
            clear hneg
            by_cases hjr : j < rn
            · have e3 : decide ((rn : Int) ≤ (j : Int)) = false := by simp; omega
              have e3' : decide (rn ≤ j) = false := by simp; omega
              obtain ⟨row, hrow⟩ := HB.out.gains.get hlt
              obtain ⟨gb, go', rfl⟩ := HB.out.gains.addr (by omega)
              obtain ⟨ra', rn', rc', hcl, hli⟩ := HB.out.gains.cell gb go' rfl k row hrow
              have hln : rn' = rn := by have h1 := HOK.out.rows.1 row (List.mem_of_getElem? hrow); have := hli.len; have := HRL.out; omega
              subst hln
              obtain ⟨y, hy, _⟩ := hli.get hjr
              obtain ⟨rb, ro, rfl⟩ := hli.addr (by omega)
              have cy := hli.cell rb ro rfl j y hy
              have hgi : gi (gainsM m) k j = y := gi_at hrow hy
              have i1 : (k : Int) < (ln : Int) := by omega
              have i2 : (j : Int) < (rn' : Int) := by omega
              have hcap := HL.out.cap
              have HGI := Lib.hid hgi; clear hgi
              have HROW := Lib.hid hrow; clear hrow
              have HLI := Lib.hid hli; clear hli
              have HY := Lib.hid hy; clear hy
              by_cases hy0 : y < 0
              · have e4 : decide (y < 0) = true := by simpa using hy0
                have hok1 : okMay m has k (j : Int) = false := by
                  simp only [okMay, Int.toNat_natCast, HGI.out]
                  rw [decide_eq_false (show ¬ (0 : Int) ≤ y by omega), decide_eq_false (show ¬ (j : Int) = -1 by omega)]; simp
                have HO := Lib.hid hok1; clear hok1
                have HY0 := Lib.hid hy0; clear hy0
                go_wp2_with fail
                go_ret
                exact ⟨ret_bool (HNO.out HO.out).symm, rfl⟩
              · have e4 : decide (y < 0) = false := by simpa using hy0
                have HY0 := Lib.hid hy0; clear hy0
                go_wp2_with fail
                refine (contains_any (some ⟨lb, lo, none⟩) k lc (has.take k) (j : Int) wr (HL.out.take (by omega))).mono ?_
                cases hct : (has.take k).contains (j : Int) with
                | true =>
                  have hok1 : okMay m has k (j : Int) = false := by
                    simp only [okMay, hct, decide_eq_false (show ¬ (j : Int) = -1 by omega)]; simp
                  have HO := Lib.hid hok1; clear hok1
                  have HCT := Lib.hid hct; clear hct
                  rintro e w1 ⟨rfl, rfl⟩
                  go_wp2_with fail
                  go_ret
                  exact ⟨ret_bool (HNO.out HO.out).symm, rfl⟩
                | false =>
                  have hok1 : okMay m has k (j : Int) = true := by
                    simp only [okMay, hct, Int.toNat_natCast, HGI.out]
                    rw [decide_eq_true (show (0 : Int) ≤ y by have := HY0.out; omega), decide_eq_true (show (0 : Int) ≤ (j : Int) by omega), decide_eq_true (show (j : Int) < (m.res.length : Int) by have := HRL.out; omega)]; simp
                  have HO := Lib.hid hok1; clear hok1
                  have HCT := Lib.hid hct; clear hct
                  rintro e w1 ⟨rfl, rfl⟩
                  go_wp2_with fail
                  go_roundg (gk - 1)
                  case measure => have := HK.out; omega
                  case rel => exact ⟨k + 1, by have := HK.out; omega, by go_num, by rw [HSU.out, HM.out, HO.out]; rfl, rfl⟩
            · have e3 : decide ((rn : Int) ≤ (j : Int)) = true := by simp; omega
              have e3' : decide (rn ≤ j) = true := by simp; omega
              have hok1 : okMay m has k (j : Int) = false := by
                simp only [okMay, decide_eq_false (show ¬ (j : Int) = -1 by omega), decide_eq_false (show ¬ (j : Int) < (m.res.length : Int) by have := HRL.out; omega)]; simp
              have HO := Lib.hid hok1; clear hok1
              have HJ := Lib.hid hjr; clear hjr
              go_wp2_with fail
              go_ret
              exact ⟨ret_bool (HNO.out HO.out).symm, rfl⟩
      · obtain rfl : k = ln := by have := HK.out; omega
        go_wp2_with fail
        go_ret
        refine ⟨ret_bool ?_, rfl⟩
        unfold mayB
        rw [HLL.out, HBL.out, HM.out]; simp
  · have e1 : ((ln : Int) != (bn : Int)) = true := by simp; omega
    have HLEN := Lib.hid hlen; clear hlen
    go_enter Try.func79, Try.ntmps79
    go_wp2_with fail
    go_ret
    refine ⟨ret_bool ?_, rfl⟩
    unfold mayB
    rw [HLL.out, HBL.out]; simp [HLEN.out]

def PayRes (b : Bool) (l : List Int) (w : World) (e : Ending) (w' : World) : Prop := match b with
  | true => RetList 0 l w e w'
  | false => RetList 1 [] w e w'

set_option maxRecDepth 100000 in
set_option maxHeartbeats 1000000 in
theorem PayOf_any (ra ba oa la : Option Addr) (rn rc bn bc on oc ln lc : Nat) (m : Mkt) (has : List Int) (w : World) (hm : MktAt w ra ba oa rn rc bn bc on oc m) (hl : Ints w la ln lc has) :
    Calls Try.prog 59 #[.agg #[.slice ra rn rc, .slice ba bn bc, .slice oa on oc], .slice la ln lc] w (PayRes (mcheck m && mayB m has) (payL m has) w) := by
  have HB0 := Lib.hid (mw_start w ra ba oa rn rc bn bc on oc)
  have hm1 := hm.below (mw_kept HB0.out).2.2.2.2 (Nat.le_refl _)
  have HK := Lib.hid (mcheck_any ra ba oa rn rc bn bc on oc m (mw w ra ba oa rn rc bn bc on oc) hm1.res hm1.bids hm1.ord)
  clear hm1
  have HM := Lib.hid hm; clear hm
  have HL := Lib.hid hl; clear hl
  cases hc : mcheck m with
  | false =>
    rw [Bool.false_and]
    rw [hc] at HK
    clear hc
    go_enter Try.func59, Try.ntmps59
    go_wp2_with fail
    refine HK.out.mono ?_
    rintro e w1 ⟨rfl, hb⟩
    have HB1 := Lib.hid (mw_below' HB0.out hb); clear hb HK
    go_wp2_with fail
    go_ret2
    exact ⟨none, 0, 0, rfl, Ints.empty _ _ _, (mw_kept HB1.out).2.2.2.2⟩
  | true =>
    rw [Bool.true_and]
    rw [hc] at HK
    have HC := Lib.hid hc; clear hc
    obtain ⟨by', hby⟩ : ∃ b, b = mayB m has := ⟨_, rfl⟩
    rw [← hby]
    have HBY := Lib.hid hby; clear hby
    go_enter Try.func59, Try.ntmps59
    go_wp2_with fail
    refine HK.out.mono ?_
    rintro e w1 ⟨rfl, hb⟩
    have HB1 := Lib.hid (mw_below' HB0.out hb); clear hb HK
    obtain ⟨c0, c1, c2, hs1, hbw⟩ := mw_kept HB1.out
    have HN := Lib.hid (newBook_any ra ba oa rn rc bn bc on oc m w1 (HM.out.below hbw (Nat.le_refl _)) HC.out)
    have HBW := Lib.hid hbw; clear hbw
    go_wp2_with fail
    refine HN.out.mono ?_
    rintro e w2 ⟨Bk, ga, ha, hc, rfl, hbk, hb2⟩
    have HBK := Lib.hid hbk; clear hbk
    have HB2 := Lib.hid (HBW.out.trans (hb2.mono HBW.out.size)); clear hb2 HN c0 c1 c2
    have HL2 := Lib.hid (HL.out.below HB2.out (Nat.le_refl _))
    have hok := mcheck_ok HC.out
    have HOK := Lib.hid hok; clear hok
    go_wp2_with fail
    refine (may_any Bk ra ba oa ga ha la rn rc bn bc on oc bn hc ln lc m has w2 HBK.out HOK.out HL2.out).mono ?_
    rw [← HBY.out]
    cases by' with
    | false =>
      rintro e w3 ⟨rfl, rfl⟩
      go_wp2_with fail
      go_ret2
      exact ⟨none, 0, 0, rfl, Ints.empty _ _ _, HB2.out⟩
    | true =>
      have hmy := HBY.out.symm
      rintro e w3 ⟨rfl, rfl⟩
      have hln : ln = bn := by
        simp only [mayB, Bool.and_eq_true, decide_eq_true_eq] at hmy
        have := HL.out.len; have := HM.out.bids.len; omega
      subst hln
      have hit : ∀ x, x ∈ has → x < m.res.length := fun x hx => by
        simp only [mayB, Bool.and_eq_true, decide_eq_true_eq] at hmy
        obtain ⟨i, hi⟩ := List.mem_iff_getElem?.1 hx
        have h1 := List.all_eq_true.1 hmy.2 i (List.mem_range.2 (List.getElem?_eq_some_iff.1 hi).1)
        rw [List.getD_eq_getElem?_getD, hi, Option.getD_some] at h1
        simp only [okMay, Bool.or_eq_true, Bool.and_eq_true, decide_eq_true_eq] at h1
        have := HOK.out.n1
        omega
      have HO := Lib.hid (of_any Bk ra ba oa ga ha la rn rc ln bc on oc ln hc lc m has w2 HBK.out HC.out HL2.out hit)
      clear hit hmy
      go_wp2_with fail
      refine HO.out.mono ?_
      rintro e w4 ⟨g, rfl, hrow, _, hb4⟩
      have HROW := Lib.hid hrow; clear hrow
      have HB4 := Lib.hid (HB2.out.trans (hb4.mono HB2.out.size)); clear hb4 HO
      go_wp2_with fail
      go_ret2
      have hlen : (payL m has).length = ln := by unfold payL; rw [tabN_length]; exact HL.out.len
      have hin := HROW.out.ints (by rw [hlen]; exact HL.out.big) (fun x hx => by
        unfold payL tabN at hx
        obtain ⟨i, _, rfl⟩ := List.mem_map.1 hx
        have := payAt_bd HOK.out has i
        omega)
      rw [hlen] at hin
      exact ⟨_, ln, ln, rfl, hin, HB4.out⟩
end Go.Proofs.Ytbnjeegicbffeaa
