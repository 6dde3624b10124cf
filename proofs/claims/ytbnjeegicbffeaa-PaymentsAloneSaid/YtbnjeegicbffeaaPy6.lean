/- Walks: the law PaymentsBounds. -/
import Derived.Test.YtbnjeegicbffeaaPy5
import Derived.Test.YtbnjeegicbffeaaKept
namespace Go.Proofs.Ytbnjeegicbffeaa
open Go.RowKit Sale

theorem lostM_nonneg {m : Mkt} (hm : MOk m) {i : Nat} (hi : i < m.bids.length) : 0 ≤ lostM m i := by
  rw [lostM_is hm hi]; exact lost_nonneg hm.fits i
theorem lostM_none {m : Mkt} (hm : MOk m) {i : Nat} (hi : i < m.bids.length) (h : (hasM m)[i]? = some (-1)) : lostM m i = 0 := by
  rw [lostM_is hm hi]; exact lost_none hm.fits hm.best (by rw [slot_of h, if_pos rfl])
theorem lostM_gain {m : Mkt} (hm : MOk m) {i j : Nat} (hi : i < m.bids.length) (h : slotOf (hasM m) i = some j) : lostM m i ≤ gi (gainsM m) i j := by
  rw [lostM_is hm hi]
  have := lost_gain (g := gi (gainsM m)) hm.best hi
  unfold gain at this
  rwa [h] at this

theorem lives14_kept (w0 : World) (y : Kept (Below w0.heap.size w0)) : Calls Try.prog 37 #[] y.w fun e w' => e = .returned (.bool true) ∧ ∃ z : Kept (Below w0.heap.size w0), w' = z.w :=
  Kept.call ((lives14_any y.w).mono fun _ _ ⟨h1, h2⟩ => ⟨h1, y.h.trans (h2.mono y.h.size)⟩)

set_option maxRecDepth 100000 in
set_option maxHeartbeats 2000000 in
theorem paymentsBounds_any (ra ba oa : Option Addr) (rn rc bn bc on oc : Nat) (m : Mkt) (bd : Nat) (w : World) (hm : MktAt w ra ba oa rn rc bn bc on oc m) (hbd : bd < 256) :
    Calls Try.prog 17 #[.agg #[.slice ra rn rc, .slice ba bn bc, .slice oa on oc], .int .u8 (bd : Int)] w fun e w' => e = .returned (.bool true) ∧ Below w.heap.size w w' := by
  have HB0 := Lib.hid (mw_start w ra ba oa rn rc bn bc on oc)
  have hm1 := hm.below (mw_kept HB0.out).2.2.2.2 (Nat.le_refl _)
  by_cases hc : mcheck m = true
  · have HG := Lib.hid (Gains_yes ra ba oa rn rc bn bc on oc m (mw w ra ba oa rn rc bn bc on oc) hm1 hc)
    have hok := mcheck_ok hc
    have hbl := hm.bids.len
    have hrl := hm.res.len
    have hm1' := hok.m1
    have hm8 := hok.m8
    rw [hbl] at hm1' hm8
    have HM := Lib.hid hm; clear hm hm1
    have HC := Lib.hid hc; clear hc
    have HOK := Lib.hid hok; clear hok
    have HBL := Lib.hid hbl; clear hbl
    have HRL := Lib.hid hrl; clear hrl
    have hcv : IntKind.i64.wrap (bd : Int) = (bd : Int) := IntWalk.i64_in _ (by omega)
    go_enter Try.func17, Try.ntmps17
    go_wp2_with fail
    refine HG.out.mono ?_
    rintro e w1 ⟨ga, rfl, hg, hb⟩
    have HB1 := Lib.hid (mw_below' HB0.out hb); clear hb HG
    have HG := Lib.hid hg; clear hg
    obtain ⟨c0, c1, c2, hs1, hbw⟩ := mw_kept HB1.out
    have HBW1 := Lib.hid hbw; clear hbw
    go_wp2_with fail
    obtain ⟨i, hie, hib⟩ : ∃ i : Nat, (bd : Int) % (bn : Int) = (i : Int) ∧ i < bn := ⟨bd % bn, by omega, Nat.mod_lt _ (by omega)⟩
    rw [hie]
    have hF := FirstM HOK.out ga oa bn bn on oc w1 HG.out (HM.out.ord.below HBW1.out (Nat.le_refl _))
    rw [HRL.out] at hF
    refine hF.mono ?_
    rintro e w2 ⟨ha, hn, hcp, rfl, hi2, hb2⟩
    have hhn : hn = bn := by rw [← hi2.len, hasM_length]; exact HBL.out
    subst hhn
    clear hF c0 c1 c2 hs1
    have HB2 := Lib.hid (mw_below' HB1.out hb2)
    have HG2 := Lib.hid (HG.out.step hb2); clear hb2 HG
    have HI2 := Lib.hid hi2; clear hi2
    obtain ⟨c0, c1, c2, hs2, hbw⟩ := mw_kept HB2.out
    have HBW2 := Lib.hid hbw; clear hbw
    go_wp2_with fail
    refine (Lost_yes ra ba oa rn rc hn bc on oc i m w2 (HM.out.below HBW2.out (Nat.le_refl _)) HC.out hib).mono ?_
    rintro e w3 ⟨rfl, hb3⟩
    have HB3 := Lib.hid (mw_below' HB2.out hb3)
    have HG3 := Lib.hid (HG2.out.step hb3); clear HG2
    have HI3 := Lib.hid (HI2.out.step hb3); clear hb3 HI2
    clear c0 c1 c2 hs2
    obtain ⟨c0, c1, c2, hs3, hbw⟩ := mw_kept HB3.out
    have HBW3 := Lib.hid hbw; clear hbw
    have hiM : i < m.bids.length := by rw [HBL.out]; exact hib
    have hL0 := lostM_nonneg HOK.out hiM
    have hLb := lostM_bd HOK.out i
    have hLn := lostM_none HOK.out hiM
    have hLg := fun j => lostM_gain (j := j) HOK.out hiM
    obtain ⟨t, ht⟩ : ∃ t, t = lostM m i := ⟨_, rfl⟩
    rw [← ht] at hL0 hLb hLn hLg ⊢
    clear ht
    have HLN := Lib.hid hLn; clear hLn
    have HLG := Lib.hid hLg; clear hLg
    have HIM := Lib.hid hiM; clear hiM
    have e1 : decide (t < 0) = false := by simp; omega
    obtain ⟨x, hx, _⟩ := HI3.out.get hib
    obtain ⟨hb', ho', rfl⟩ := HI3.out.addr (by omega)
    have cx := HI3.out.cell hb' ho' rfl i x hx
    have i1 : (i : Int) < (hn : Int) := by omega
    have HX := Lib.hid hx; clear hx
    by_cases hne : x = -1
    · have ht0 := HLN.out (by rw [HX.out, hne])
      subst ht0
      subst hne
      go_wp2_with fail
      refine (lives14_any w3).mono ?_
      rintro e w4 ⟨rfl, hb⟩
      have HB4 := Lib.hid (mw_below' HB3.out hb); clear hb
      go_wp2_with fail
      go_ret
      exact ⟨rfl, (mw_kept HB4.out).2.2.2.2⟩
    · obtain ⟨j, rfl, hjn, hsl, _⟩ := HOK.out.item HX.out hne
      have hgain := HLG.out j hsl
      have HSL := Lib.hid hsl; clear hsl
      have hjr : j < rn := by have := HRL.out; omega
      clear hjn
      obtain ⟨row, hrow⟩ := HG3.out.get hib
      obtain ⟨gb, go', rfl⟩ := HG3.out.addr (by omega)
      obtain ⟨la, ln, lc, hcl, hli⟩ := HG3.out.cell gb go' rfl i row hrow
      have hln : ln = rn := by have h1 := HOK.out.rows.1 row (List.mem_of_getElem? hrow); have := hli.len; have := HRL.out; omega
      subst hln
      obtain ⟨y, hy, _⟩ := hli.get hjr
      obtain ⟨lb, lo, rfl⟩ := hli.addr (by omega)
      have cy := hli.cell lb lo rfl j y hy
      have hgi : gi (gainsM m) i j = y := gi_at hrow hy
      rw [hgi] at hgain
      have HGI := Lib.hid hgi; clear hgi
      have HY := Lib.hid hy; clear hy
      have HLI := Lib.hid hli; clear hli
      have HROW := Lib.hid hrow; clear hrow
      have e3 : decide (0 ≤ (j : Int)) = true := by simp
      have e4 : decide ((j : Int) < (ln : Int)) = true := by simp; omega
      have e5 : decide (t ≤ y) = true := by simp; omega
      have i2 : (j : Int) < (ln : Int) := by omega
      go_wp2_with fail
      have hbd : Below w3.heap.size w3 w3.drew := (Below.refl _ _).drew
      have hne' : Nonempty (Kept (Below w3.heap.size w3)) := ⟨⟨_, hbd⟩⟩
      have k1 : ∀ z : Kept (Below w3.heap.size w3), z.w.cell? ⟨hb', ho' + i, none⟩ = some (.int .i64 j) := fun z => cell_step z.h cx
      have k2 : ∀ z : Kept (Below w3.heap.size w3), z.w.cell? ⟨gb, go' + i, none⟩ = some (.slice (some ⟨lb, lo, none⟩) ln lc) := fun z => cell_step z.h hcl
      have k3 : ∀ z : Kept (Below w3.heap.size w3), z.w.cell? ⟨lb, lo + j, none⟩ = some (.int .i64 y) := fun z => cell_step z.h cy
      refine wp_region_kept (Below w3.heap.size w3) (by kernel_rfl) (by kernel_rfl) hbd ?_
      repeat (go_big_quiet_step ((go_at_call 37; exact lives14_kept w3 _)))
      refine wpQuiet_nil ?_
      intro _ hw'
      obtain ⟨⟨w4, hb⟩, rfl⟩ := hw'
      clear k1 k2 k3 hne'
      go_wp2_with fail
      go_ret
      exact ⟨rfl, HBW3.out.trans (hb.mono HBW3.out.size)⟩
  · have HC := Lib.hid (Gains_no ra ba oa rn rc bn bc on oc m (mw w ra ba oa rn rc bn bc on oc) hm1 (by simpa using hc))
    clear hm hm1
    go_enter Try.func17, Try.ntmps17
    go_wp2_with fail
    refine HC.out.mono ?_
    rintro e w1 ⟨rfl, hb⟩
    have HB1 := Lib.hid (mw_below' HB0.out hb); clear hb HC
    go_wp2_with fail
    refine (lives14_any w1).mono ?_
    rintro e w2 ⟨rfl, hb⟩
    have HB2 := Lib.hid (mw_below' HB1.out hb); clear hb
    go_wp2_with fail
    go_ret
    exact ⟨rfl, (mw_kept HB2.out).2.2.2.2⟩
end Go.Proofs.Ytbnjeegicbffeaa
