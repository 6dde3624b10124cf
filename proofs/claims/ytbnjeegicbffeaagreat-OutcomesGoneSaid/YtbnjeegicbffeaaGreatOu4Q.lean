/- Walks: the law OutcomesGone. -/
import Derived.Test.YtbnjeegicbffeaaGreatG40
/- Walks: the law OutcomesGone. -/
namespace Go.Proofs.YtbnjeegicbffeaaGreat
open Go.RowKit Sale

theorem hasM_without {m : Mkt} (hm : MOk m) {i : Nat} (hi : i < m.bids.length) : (hasM (withoutM m i))[i]? = some (-1) := by
  have h1 : i < (hasM (withoutM m i)).length := by rw [hasM_length, withoutM_length]; exact hi
  obtain ⟨x, hx⟩ : ∃ x, (hasM (withoutM m i))[i]? = some x := ⟨_, List.getElem?_eq_getElem h1⟩
  by_cases hne : x = -1
  · rw [hx, hne]
  · obtain ⟨k, rfl, hk, _, hg⟩ := (hm.without i).item hx hne
    rw [gi_without hi hk, wipe_same] at hg
    omega

set_option maxRecDepth 100000 in
set_option maxHeartbeats 4000000 in
theorem outcomesGone_any (ra ba oa : Option Addr) (rn rc bn bc on oc : Nat) (m : Mkt) (bd : Nat) (w : World) (hm : MktAt w ra ba oa rn rc bn bc on oc m) (hbd : bd < 256) :
    Calls Tryz.prog 10 #[.agg #[.slice ra rn rc, .slice ba bn bc, .slice oa on oc], .int .u8 (bd : Int)] w fun e w' => e = .returned (.bool true) ∧ Below w.heap.size w w' := by
  have hb0 : Below w.heap.size w (mw w ra ba oa rn rc bn bc on oc) := (Below.refl _ _).alloc (Nat.le_refl _) _
  have hv0 : VRow (mw w ra ba oa rn rc bn bc on oc) w.heap.size 28 [.slice ra rn rc, .slice ba bn bc, .slice oa on oc] := VRow.new w _ _
  have hm1 := hm.below hb0 (Nat.le_refl _)
  have hrl := hm.res.len
  have hbl := hm.bids.len
  by_cases hc : mcheck m = true
  · have HO := Lib.hid (Oof_yes ra ba oa rn rc bn bc on oc m _ hm1 hc)
    have hok := mcheck_ok hc
    have hn8 := hok.n8
    have hm8 := hok.m8
    have hmm1 := hok.m1
    rw [hrl] at hn8
    rw [hbl] at hm8 hmm1
    have HC := Lib.hid (And.intro hc hok)
    have HV := Lib.hid (And.intro hv0 (And.intro hm1 hb0))
    have HL := Lib.hid (And.intro hrl hbl); clear hv0 hm1 hb0 hm hok hc hrl hbl
    have hcv : IntKind.i64.wrap (bd : Int) = (bd : Int) := IntWalk.i64_in _ (by omega)
    go_enter Tryz.func10, Tryz.ntmps10
    go_wp2_with fail
    refine HO.out.mono ?_
    rintro e w1 ⟨ha, pa, hcp, rfl, ho, hb1⟩
    have hmo := MoAt.box (HV.out.1.step hb1) (HV.out.2.1.below hb1 (Nat.le_refl _)) ho (HV.out.2.2.trans (hb1.mono HV.out.2.2.size))
    have c0 := hmo.v1.cell (k := 0) rfl
    have c1 := hmo.v1.cell (k := 1) rfl
    have c2 := hmo.v1.cell (k := 2) rfl
    have HMO := Lib.hid hmo; clear hmo ho hb1 HO
    go_wp2_with fail
    obtain ⟨i, hie, hib⟩ : ∃ i : Nat, (bd : Int) % (bn : Int) = (i : Int) ∧ i < bn := ⟨bd % bn, by omega, Nat.mod_lt _ (by omega)⟩
    rw [hie]
    clear hie hcv
    refine (Without_yes ra ba oa rn rc bn bc on oc i m _ HMO.out.mkt HC.out.1 hib).mono ?_
    rintro e w2 ⟨a1, a2, a3, rfl, hm2, hb2⟩
    have hcx := mcheck_of (HC.out.2.without i)
    have hal : Below w2.heap.size w2 (w2.alloc (.cells #[.slice a1 rn rn, .slice a2 bn bn, .slice a3 on on] 28)) := (Below.refl _ _).alloc (Nat.le_refl _) _
    have hmo := (HMO.out.step hb2).step hal
    have hvx : VRow (w2.alloc (.cells #[.slice a1 rn rn, .slice a2 bn bn, .slice a3 on on] 28)) w2.heap.size 28 [.slice a1 rn rn, .slice a2 bn bn, .slice a3 on on] := VRow.new _ _ _
    have hmx := hm2.below hal (Nat.le_refl _)
    have HO2 := Lib.hid (Oof_yes a1 a2 a3 rn rn bn bn on on (withoutM m i) _ hmx hcx)
    have H2 := Lib.hid (And.intro hmo (And.intro hvx hmx)); clear hmo hvx hmx hm2 hb2 hal hcx c0 c1 c2 HMO
    go_wp2_with fail
    refine HO2.out.mono ?_
    rintro e w3 ⟨ha2, pa2, hcp2, rfl, ho3, hb3⟩
    have hmo := H2.out.1.step hb3
    have hmp := MoAt.box (H2.out.2.1.step hb3) (H2.out.2.2.below hb3 (Nat.le_refl _)) ho3 hmo.below
    have hal : Below w3.heap.size w3 (w3.alloc (.cells #[.slice ha2 bn hcp2, .slice pa2 rn rn] 30)) := (Below.refl _ _).alloc (Nat.le_refl _) _
    have hmo3 := hmo.step hal
    have c1 := hmo3.v1.cell (k := 1) rfl
    have q0 := hmo3.v2.cell (k := 0) rfl
    have q1 := hmo3.v2.cell (k := 1) rfl
    have r0 := hmp.v2.cell (k := 0) rfl
    have r1 := hmp.v2.cell (k := 1) rfl
    obtain ⟨W3, hW3⟩ : ∃ W3, W3 = w3.alloc (.cells #[.slice ha2 bn hcp2, .slice pa2 rn rn] 30) := ⟨_, rfl⟩
    have H3 := Lib.hid (And.intro hmo3 hmp); clear hmo hmo3 hmp hal ho3 hb3 HO2 H2
    go_wp2_with fail
    rw [← hW3] at c1 q0 q1 r0 r1 H3 ⊢
    clear hW3 c1 r0 r1 q0
    go_loopg [12] rn (fun g' s12 wr => ∃ j : Nat, j + g' = rn ∧ s12 = .int .i64 j ∧ Below W3.heap.size W3 wr)
    case atStart => exact ⟨0, by omega, rfl, Below.refl _ _⟩
    case round =>
      clear q1
      obtain ⟨j, hj, rfl, hb⟩ := hrel
      have HJ := Lib.hid hj; clear hj
      have hmo := H3.out.1.step hb
      have hmp := H3.out.2.step hb
      have q1 := hmo.v2.cell (k := 1) rfl
      have r1 := hmp.v2.cell (k := 1) rfl
      by_cases hlt : j < rn
      · obtain ⟨y, hy, _⟩ := hmo.out.prices.get hlt
        obtain ⟨z, hz, _⟩ := hmp.out.prices.get hlt
        have hle := gone_prices HC.out.2 HC.out.1 i (k := j) (by rw [HL.out.1]; exact hlt)
        have hz' : (leastM (withoutM m i))[j]? = some z := hz
        have hy' : (leastM m)[j]? = some y := hy
        rw [getD_at hy', getD_at hz'] at hle
        obtain ⟨yb, yo, rfl⟩ := hmo.out.prices.addr (by omega)
        obtain ⟨zb, zo, rfl⟩ := hmp.out.prices.addr (by omega)
        have cy := hmo.out.prices.cell yb yo rfl j y hy
        have cz := hmp.out.prices.cell zb zo rfl j z hz
        have j0 : (0 : Int) ≤ (j : Int) := by omega
        have j1 : (j : Int) < (rn : Int) := by omega
        have e1 : decide (y < z) = false := by simpa using hle
        have HB := Lib.hid hb; clear hb hmo hmp hy hz hz' hy' hle
        go_wp2_with fail
        go_quiet (fail)
        go_wp2_with fail
        go_roundg (gk - 1)
        case measure => have := HJ.out; omega
        case rel => exact ⟨j + 1, by have := HJ.out; omega, by go_num, below_drewN HB.out _⟩
      · obtain rfl : j = rn := by have := HJ.out; omega
        clear r1
        have hiM : i < m.bids.length := by rw [HL.out.2]; exact hib
        have q0 := hmo.v2.cell (k := 0) rfl
        have r0 := hmp.v2.cell (k := 0) rfl
        obtain ⟨x, hx, _⟩ := hmo.out.has.get hib
        have hx' : (hasM m)[i]? = some x := hx
        have hz := hasM_without HC.out.2 hiM
        have hS := same_any ha ha2 bn hcp bn hcp2 (hasM m) (hasM (withoutM m i)) wr hmo.out.has hmp.out.has
        obtain ⟨xb, xo, rfl⟩ := hmo.out.has.addr (by omega)
        have cx := hmo.out.has.cell xb xo rfl i x hx
        have i0 : (0 : Int) ≤ (i : Int) := by omega
        have i1 : (i : Int) < (bn : Int) := by omega
        have HZ := Lib.hid hz
        by_cases hne : x = -1
        · have e1 : (x != -1) = false := by simp [hne]
          rw [decide_eq_true (gone_has HC.out.2 hiM (by rw [← hne]; exact hx')).symm] at hS
          have HS := Lib.hid hS
          have H6 := Lib.hid (And.intro hmo hmp); clear hmo hmp hb hS hx hx' hz hne
          go_wp2_with fail
          refine HS.out.mono ?_
          rintro e w7 ⟨rfl, hb7⟩
          have hmo7 := H6.out.1.step hb7
          have hmp7 := H6.out.2.step hb7
          clear r0 q0 q1 cx
          have r0 := hmp7.v2.cell (k := 0) rfl
          obtain ⟨zb, zo, rfl⟩ := hmp7.out.has.addr (by omega)
          have cz := hmp7.out.has.cell zb zo rfl i (-1) HZ.out
          have H7 := Lib.hid hmo7; clear hmo7 hmp7 hb7
          go_wp2_with fail
          refine (lives15_any w7).mono ?_
          rintro e w8 ⟨rfl, hb⟩
          have H8 := Lib.hid (H7.out.step hb); clear hb
          go_wp2_with fail
          go_ret
          exact ⟨rfl, H8.out.below⟩
        · have e1 : (x != -1) = true := by simpa using hne
          obtain ⟨zb, zo, rfl⟩ := hmp.out.has.addr (by omega)
          have cz := hmp.out.has.cell zb zo rfl i (-1) HZ.out
          have H7 := Lib.hid hmo; clear hmo hmp hb hS hx hx' hz hne
          go_wp2_with fail
          refine (lives15_any wr).mono ?_
          rintro e w8 ⟨rfl, hb⟩
          have H8 := Lib.hid (H7.out.step hb); clear hb
          go_wp2_with fail
          go_ret
          exact ⟨rfl, H8.out.below⟩
  · have hc : mcheck m = false := by simpa using hc
    have HO := Lib.hid (Oof_no ra ba oa rn rc bn bc on oc m _ hm1 hc)
    have HV := Lib.hid hb0; clear hv0 hm1 hb0 hm hrl hbl hc
    go_enter Tryz.func10, Tryz.ntmps10
    go_wp2_with fail
    refine HO.out.mono ?_
    rintro e w1 ⟨rfl, hb⟩
    have H1 := Lib.hid (HV.out.trans (hb.mono HV.out.size)); clear hb HO
    go_wp2_with fail
    refine (lives15_any _).mono ?_
    rintro e w2 ⟨rfl, hb⟩
    have H2 := Lib.hid ((H1.out.alloc H1.out.size _).trans (hb.mono (by have := H1.out.size; simp; omega))); clear hb
    go_wp2_with fail
    go_ret
    exact ⟨rfl, H2.out⟩
end Go.Proofs.YtbnjeegicbffeaaGreat
