/- Walks: payments: what all have but one; what is lost by one. -/
import Derived.Test.YtbnjeegicbffeaaPy1
import Derived.Test.YtbnjeegicbffeaaPrice
namespace Go.Proofs.Ytbnjeegicbffeaa
open Go.RowKit Sale

/-- what the first k have, but for one -/
def oTo (m : Mkt) (i0 k : Nat) : Int := total (gi (gainsM m)) (upd (slotOf (hasM m)) i0 none) (List.range k)
theorem oTo_succ (m : Mkt) (i0 k : Nat) : oTo m i0 (k + 1) = oTo m i0 k + gain (gi (gainsM m)) (upd (slotOf (hasM m)) i0 none) k := by
  unfold oTo
  rw [List.range_succ, total_append]
  simp [total]
theorem oTo_same (m : Mkt) (k : Nat) : oTo m k (k + 1) = oTo m k k := by
  rw [oTo_succ]; unfold gain; rw [upd_same]; simp
theorem oTo_none {m : Mkt} {i0 k : Nat} (h : (hasM m)[k]? = some (-1)) : oTo m i0 (k + 1) = oTo m i0 k := by
  rw [oTo_succ]
  have : gain (gi (gainsM m)) (upd (slotOf (hasM m)) i0 none) k = 0 := by
    unfold gain
    by_cases e : k = i0
    · subst e; rw [upd_same]
    · rw [upd_other e, slot_of h, if_pos rfl]
  omega
theorem oTo_some {m : Mkt} {i0 k j : Nat} (h : slotOf (hasM m) k = some j) (hne : k ≠ i0) : oTo m i0 (k + 1) = oTo m i0 k + gi (gainsM m) k j := by
  rw [oTo_succ]
  unfold gain
  rw [upd_other hne, h]
theorem oTo_bd {m : Mkt} (hm : MOk m) (i0 : Nat) : ∀ k : Nat, -1000000 * (k : Int) ≤ oTo m i0 k ∧ oTo m i0 k ≤ 1000000 * (k : Int)
  | 0 => by simp [oTo, total]
  | k + 1 => by
    have ih := oTo_bd hm i0 k
    rw [oTo_succ]
    have : -1000000 ≤ gain (gi (gainsM m)) (upd (slotOf (hasM m)) i0 none) k ∧ gain (gi (gainsM m)) (upd (slotOf (hasM m)) i0 none) k ≤ 1000000 := by
      unfold gain
      cases upd (slotOf (hasM m)) i0 none k with
      | none => simp
      | some j => exact hm.bd k j
    push_cast
    omega

set_option maxRecDepth 100000 in
set_option maxHeartbeats 2000000 in
theorem others_any (Bk i0 : Nat) (ra ba oa ga ha : Option Addr) (rn rc bn bc on oc gc hc : Nat) (m : Mkt) (w : World) (hb : BookAt w Bk ra ba oa ga ha rn rc bn bc on oc gc hc m) (hok : MOk m) :
    Calls Try.prog 81 #[.pointer (some ⟨Bk, 0, none⟩), .int .i64 i0] w fun e w' => e = .returned (.int .i64 (oTo m i0 bn)) ∧ w = w' := by
  have hbl := hb.mkt.bids.len
  have hbig := hb.mkt.bids.big
  have hm8 := hok.m8
  rw [hbl] at hm8
  have c2 := hb.row.cell (k := 4) rfl
  have c1 := hb.row.cell (k := 3) rfl
  have HB := Lib.hid hb; clear hb
  have HOK := Lib.hid hok; clear hok
  have HBL := Lib.hid hbl; clear hbl
  go_enter Try.func81, Try.ntmps81
  go_wp2_with fail
  go_loopg [4, 12] bn (fun g' s4 s12 wr => ∃ k : Nat, k + g' = bn ∧ s12 = .int .i64 k ∧ s4 = .int .i64 (oTo m i0 k) ∧ wr = w)
  case atStart => exact ⟨0, by omega, rfl, rfl, rfl⟩
  case round =>
    obtain ⟨k, hk, rfl, rfl, rfl⟩ := hrel
    have HK := Lib.hid hk; clear hk
    by_cases hlt : k < bn
    · obtain ⟨x, hx, _⟩ := HB.out.has.get hlt
      obtain ⟨hb', ho', rfl⟩ := HB.out.has.addr (by omega)
      have cx := HB.out.has.cell hb' ho' rfl k x hx
      have hbd := oTo_bd HOK.out i0 k
      have hge := hasM_ge m x (List.mem_of_getElem? hx)
      by_cases hne : x = -1
      · have e1 : decide (0 ≤ x) = false := by simp; omega
        have hs := oTo_none (i0 := i0) (by rw [← hne]; exact hx)
        have HS := Lib.hid hs; clear hs
        have HX := Lib.hid hx; clear hx
        have HNE := Lib.hid hne; clear hne
        obtain ⟨t, ht⟩ : ∃ t, t = oTo m i0 k := ⟨_, rfl⟩
        rw [← ht] at hbd ⊢
        have HT := Lib.hid ht; clear ht
        by_cases hki : k = i0
        · have f1 : ((k : Int) != (i0 : Int)) = false := by simp [hki]
          have HKI := Lib.hid hki; clear hki
          go_wp2_with fail
          go_roundg (gk - 1)
          case measure => have := HK.out; omega
          case rel => exact ⟨k + 1, by have := HK.out; omega, by go_num, by rw [HS.out, HT.out], rfl⟩
        · have f1 : ((k : Int) != (i0 : Int)) = true := by simp; omega
          have HKI := Lib.hid hki; clear hki
          go_wp2_with fail
          go_roundg (gk - 1)
          case measure => have := HK.out; omega
          case rel => exact ⟨k + 1, by have := HK.out; omega, by go_num, by rw [HS.out, HT.out], rfl⟩
      · obtain ⟨j, rfl, hjn, hsl, _⟩ := HOK.out.item hx hne
        have e1 : decide (0 ≤ (j : Int)) = true := by simp
        obtain ⟨row, hrow⟩ := HB.out.gains.get hlt
        obtain ⟨gb, go', rfl⟩ := HB.out.gains.addr (by omega)
        obtain ⟨la, ln, lc, hcl, hli⟩ := HB.out.gains.cell gb go' rfl k row hrow
        have hln : ln = m.res.length := by have h1 := HOK.out.rows.1 row (List.mem_of_getElem? hrow); have := hli.len; omega
        have hjl : j < ln := by omega
        obtain ⟨y, hy, _⟩ := hli.get hjl
        obtain ⟨lb, lo, rfl⟩ := hli.addr (by omega)
        have cy := hli.cell lb lo rfl j y hy
        have hgi : gi (gainsM m) k j = y := gi_at hrow hy
        have hyb := HOK.out.bd k j
        rw [hgi] at hyb
        have i2 : (j : Int) < (ln : Int) := by omega
        have i1 : (k : Int) < (bn : Int) := by omega
        have HGI := Lib.hid hgi; clear hgi
        have HSL := Lib.hid hsl; clear hsl
        have HROW := Lib.hid hrow; clear hrow
        have HLI := Lib.hid hli; clear hli
        have HX := Lib.hid hx; clear hx
        have HY := Lib.hid hy; clear hy
        have HLN := Lib.hid hln; clear hln
        obtain ⟨hyb1, hyb2⟩ := hyb
        obtain ⟨t, ht⟩ : ∃ t, t = oTo m i0 k := ⟨_, rfl⟩
        rw [← ht] at hbd ⊢
        have HT := Lib.hid ht; clear ht
        obtain ⟨hbd1, hbd2⟩ := hbd
        by_cases hki : k = i0
        · have f1 : ((k : Int) != (i0 : Int)) = false := by simp [hki]
          have HKI := Lib.hid hki; clear hki
          go_wp2_with fail
          go_roundg (gk - 1)
          case measure => have := HK.out; omega
          case rel => exact ⟨k + 1, by have := HK.out; omega, by go_num, by rw [← HKI.out, oTo_same, HT.out, HKI.out], rfl⟩
        · have f1 : ((k : Int) != (i0 : Int)) = true := by simp; omega
          have HKI := Lib.hid hki; clear hki
          have e3 : IntKind.i64.wrap (t + y) = t + y := IntWalk.i64_in _ (by omega)
          go_wp2_with fail
          go_roundg (gk - 1)
          case measure => have := HK.out; omega
          case rel => exact ⟨k + 1, by have := HK.out; omega, by go_num, by rw [oTo_some HSL.out HKI.out, HGI.out, HT.out], rfl⟩
    · obtain rfl : k = bn := by have := HK.out; omega
      go_wp2_with fail
      go_ret
      exact ⟨rfl, rfl⟩

/-- what others lose by one -/
def lostM (m : Mkt) (i0 : Nat) : Int := bestVal (gainsM (withoutM m i0)) m.res.length - oTo m i0 m.bids.length
theorem bestVal_bd {m : Mkt} (hm : MOk m) : 0 ≤ bestVal (gainsM m) m.res.length ∧ bestVal (gainsM m) m.res.length ≤ 8000000 := by
  unfold bestVal
  refine ⟨opt_nonneg _ _ _ _, ?_⟩
  have h := opt_le (g := gi (gainsM m)) (n := m.res.length) (B := 1000000) (by omega) (List.range (gainsM m).length) (fun _ => true) fun l _ r _ => (hm.bd l r).2
  have := hm.m8
  rw [List.length_range, gainsM_length] at h
  rw [gainsM_length]
  omega
theorem lostM_is {m : Mkt} (_hm : MOk m) {i0 : Nat} (_hi : i0 < m.bids.length) : lostM m i0 = lostBy (gi (gainsM m)) m.res.length m.bids.length (slotOf (hasM m)) i0 := by
  unfold lostM lostBy others oTo bestVal
  rw [gainsM_length, withoutM_length]
  rw [opt_congr (g := gi (gainsM (withoutM m i0))) (g' := wipe (gi (gainsM m)) i0) (n := m.res.length) (List.range m.bids.length) (fun l hl r hr => gi_without (List.mem_range.1 hl) hr) (fun _ _ => rfl)]

set_option maxRecDepth 100000 in
set_option maxHeartbeats 2000000 in
theorem lost_any (Bk i0 : Nat) (ra ba oa ga ha : Option Addr) (rn rc bn bc on oc gc hc : Nat) (m : Mkt) (w : World) (hb : BookAt w Bk ra ba oa ga ha rn rc bn bc on oc gc hc m) (hc' : mcheck m = true) (hi : i0 < bn) :
    Calls Try.prog 61 #[.pointer (some ⟨Bk, 0, none⟩), .int .i64 i0] w fun e w' => e = .returned (.int .i64 (lostM m i0)) ∧ Below w.heap.size w w' := by
  have hok := mcheck_ok hc'
  have hbl := hb.mkt.bids.len
  have hrl := hb.mkt.res.len
  have c0 := hb.row.cell (k := 0) rfl
  have c1 := hb.row.cell (k := 1) rfl
  have c2 := hb.row.cell (k := 2) rfl
  have hBk := hb.row.lt
  have HB := Lib.hid hb; clear hb
  have HOK := Lib.hid hok; clear hok
  have HBL := Lib.hid hbl; clear hbl
  have HRL := Lib.hid hrl; clear hrl
  have HC := Lib.hid hc'; clear hc'
  go_enter Try.func61, Try.ntmps61
  go_wp2_with fail
  refine (Without_yes ra ba oa rn rc bn bc on oc i0 m w HB.out.mkt HC.out hi).mono ?_
  rintro e w1 ⟨a1, a2, a3, rfl, hm1, hb1⟩
  clear c0 c1 c2
  have HM1 := Lib.hid hm1; clear hm1
  have HB1 := Lib.hid hb1; clear hb1
  have hmw := HOK.out.without i0
  have HMW := Lib.hid hmw; clear hmw
  have hb2 : Below w1.heap.size w1 (w1.alloc (.cells #[.slice a1 rn rn, .slice a2 bn bn, .slice a3 on on] 25)) := (Below.refl _ _).alloc (Nat.le_refl _) _
  have HG := Lib.hid (Gains_yes a1 a2 a3 rn rn bn bn on on (withoutM m i0) _ (HM1.out.below hb2 (Nat.le_refl _)) (mcheck_of HMW.out))
  have HB2 := Lib.hid (HB1.out.trans (hb2.mono HB1.out.size)); clear hb2
  go_wp2_with fail
  refine HG.out.mono ?_
  rintro e w3 ⟨a4, rfl, hg, hb3⟩
  have HG3 := Lib.hid hg; clear hg
  have HB3 := Lib.hid (HB2.out.trans (hb3.mono HB2.out.size)); clear hb3 HG
  have k0 := (HB.out.step HB3.out).row.cell (k := 0) rfl
  go_wp2_with fail
  refine (Best_any a4 bn bn (gainsM (withoutM m i0)) rn w3 HG3.out).mono ?_
  rw [if_pos (by have := HMW.out.wcheck; rwa [show (withoutM m i0).res.length = rn from HRL.out] at this), if_pos (by have := HMW.out.wcheck; rwa [show (withoutM m i0).res.length = rn from HRL.out] at this), Int.toNat_natCast]
  rintro e w4 ⟨rfl, hb4⟩
  have HB4 := Lib.hid (HB3.out.trans (hb4.mono HB3.out.size)); clear hb4 k0
  have hbv := bestVal_bd HMW.out
  rw [show (withoutM m i0).res.length = rn from HRL.out] at hbv
  obtain ⟨bv, hbve⟩ : ∃ bv, bv = bestVal (gainsM (withoutM m i0)) rn := ⟨_, rfl⟩
  rw [← hbve] at hbv ⊢
  have HBV := Lib.hid hbve; clear hbve
  go_wp2_with fail
  refine (others_any Bk i0 ra ba oa ga ha rn rc bn bc on oc gc hc m w4 (HB.out.step HB4.out) HOK.out).mono ?_
  rintro e w5 ⟨rfl, rfl⟩
  have hbd := oTo_bd HOK.out i0 bn
  have hm8 := HOK.out.m8
  rw [HBL.out] at hm8
  obtain ⟨t, ht⟩ : ∃ t, t = oTo m i0 bn := ⟨_, rfl⟩
  rw [← ht] at hbd ⊢
  have HT := Lib.hid ht; clear ht
  obtain ⟨b1, b2⟩ := hbd
  obtain ⟨b3, b4⟩ := hbv
  have e3 : IntKind.i64.wrap (bv - t) = bv - t := IntWalk.i64_in _ (by omega)
  go_wp2_with fail
  go_ret
  exact ⟨ret_int (by rw [HT.out, HBV.out]; unfold lostM; rw [HRL.out, HBL.out]), HB4.out⟩
end Go.Proofs.Ytbnjeegicbffeaa
