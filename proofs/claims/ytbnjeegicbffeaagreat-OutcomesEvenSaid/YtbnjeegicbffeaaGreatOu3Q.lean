/- Walks: the law OutcomesEven. -/
import Derived.Test.YtbnjeegicbffeaaGreatG40
import Derived.Test.YtbnjeegicbffeaaGreatG41
import Derived.Test.YtbnjeegicbffeaaGreatG22
/- Walks: the law OutcomesEven. -/
namespace Go.Proofs.YtbnjeegicbffeaaGreat
open Go.RowKit Sale

theorem paysV_out {m : Mkt} (hm : MOk m) {i : Nat} {x : Int} (hx : (hasM m)[i]? = some x) : paysV (outM m) (i : Int) = if x = -1 then 0 else (leastM m).getD x.toNat 0 := by
  have hil : i < (hasM m).length := (List.getElem?_eq_some_iff.1 hx).1
  have hg : (hasM m).getD i (-1) = x := getD_at hx
  unfold paysV outM
  simp only [Int.toNat_natCast]
  rw [hg]
  by_cases hne : x = -1
  · rw [if_neg (by omega), if_pos hne]
  · obtain ⟨k, rfl, hkn, _, _⟩ := hm.item hx hne
    rw [if_pos ⟨by omega, by omega, by omega, by have := hm.least.pr.len; omega⟩, if_neg hne]
theorem pays_kept {w0 : World} {ha pa : Option Addr} {hn hc pn pc : Nat} {o : Outc} (i : Int) (ho : OutAt w0 ha pa hn hc pn pc o) (y : Kept (Below w0.heap.size w0)) :
    Calls Tryz.prog 17 #[.agg #[.slice ha hn hc, .slice pa pn pc], .int .i64 i] y.w fun e w' => e = .returned (.int .i64 (paysV o i)) ∧ ∃ z : Kept (Below w0.heap.size w0), w' = z.w :=
  Kept.call ((pays_any ha pa hn hc pn pc o i y.w (ho.below y.h (Nat.le_refl _))).mono fun _ _ ⟨h3, h4⟩ => ⟨h3, y.h.trans (h4.mono y.h.size)⟩)

set_option maxRecDepth 100000 in
set_option maxHeartbeats 4000000 in
theorem outcomesEven_any (ra ba oa : Option Addr) (rn rc bn bc on oc : Nat) (m : Mkt) (w : World) (hm : MktAt w ra ba oa rn rc bn bc on oc m) :
    Calls Tryz.prog 14 #[.agg #[.slice ra rn rc, .slice ba bn bc, .slice oa on oc]] w fun e w' => e = .returned (.bool true) ∧ Below w.heap.size w w' := by
  have hb0 : Below w.heap.size w (mw w ra ba oa rn rc bn bc on oc) := (Below.refl _ _).alloc (Nat.le_refl _) _
  have hv0 : VRow (mw w ra ba oa rn rc bn bc on oc) w.heap.size 28 [.slice ra rn rc, .slice ba bn bc, .slice oa on oc] := VRow.new w _ _
  have hm1 := hm.below hb0 (Nat.le_refl _)
  have hrl := hm.res.len
  have hbl := hm.bids.len
  by_cases hc : mcheck m = true
  · have HO := Lib.hid (Oof_yes ra ba oa rn rc bn bc on oc m _ hm1 hc)
    have hok := mcheck_ok hc
    have hn8 := hok.n8
    have hm8 := hok.m8
    rw [hrl] at hn8
    rw [hbl] at hm8
    have HEV := Lib.hid (hok.outEven hc)
    have HC := Lib.hid (And.intro hc hok)
    have HV := Lib.hid (And.intro hv0 (And.intro hm1 hb0))
    have HL := Lib.hid (And.intro hrl hbl); clear hv0 hm1 hb0 hm hok hc hrl hbl
    go_enter Tryz.func14, Tryz.ntmps14
    go_wp2_with fail
    refine HO.out.mono ?_
    rintro e w1 ⟨ha, pa, hcp, rfl, ho, hb1⟩
    have hmo := MoAt.box (HV.out.1.step hb1) (HV.out.2.1.below hb1 (Nat.le_refl _)) ho (HV.out.2.2.trans (hb1.mono HV.out.2.2.size))
    have c0 := hmo.v1.cell (k := 0) rfl
    have c1 := hmo.v1.cell (k := 1) rfl
    have c2 := hmo.v1.cell (k := 2) rfl
    have HG := Lib.hid (Gains_yes ra ba oa rn rc bn bc on oc m _ hmo.mkt HC.out.1)
    have HMO := Lib.hid hmo; clear hmo ho hb1 HO
    go_wp2_with fail
    refine HG.out.mono ?_
    rintro e w2 ⟨ga, rfl, hg, hb2⟩
    have hmo := HMO.out.step hb2
    clear c0 c1 c2
    have c0 := hmo.v1.cell (k := 0) rfl
    have hB := Best_yes HC.out.2 ga bn bn w2 hg
    rw [HL.out.1] at hB
    have HB := Lib.hid hB
    have H2 := Lib.hid (And.intro hmo hg); clear hmo hg hb2 hB HG HMO
    go_wp2_with fail
    refine HB.out.mono ?_
    rintro e w3 ⟨rfl, hb3⟩
    have hmo := H2.out.1.step hb3
    clear c0
    have c0 := hmo.v1.cell (k := 0) rfl
    have c1 := hmo.v1.cell (k := 1) rfl
    have c2 := hmo.v1.cell (k := 2) rfl
    have q0 := hmo.v2.cell (k := 0) rfl
    have hP := PayOf_any ra ba oa ha rn rc bn bc on oc bn hcp m (hasM m) w3 hmo.mkt hmo.out.has
    rw [HC.out.1, mayB_has HC.out.2] at hP
    have HP := Lib.hid hP
    have H3 := Lib.hid (And.intro hmo (H2.out.2.below hb3 (Nat.le_refl _))); clear hmo hb3 hP HB H2
    go_wp2_with fail
    refine HP.out.mono ?_
    rintro e w4 ⟨la, ln, lc, rfl, hi4, hb4⟩
    have hln : ln = bn := by rw [← hi4.len, payL_len, hasM_length]; exact HL.out.2
    subst hln
    have hmo := H3.out.1.step hb4
    clear c0 c1 c2 q0
    have c1 := hmo.v1.cell (k := 1) rfl
    have H4 := Lib.hid (And.intro hmo (And.intro (H3.out.2.below hb4 (Nat.le_refl _)) hi4)); clear hmo hb4 hi4 HP H3
    go_wp2_with fail
    clear c1
    go_loopg [11] ln (fun g' s11 wr => ∃ (i : Nat), i + g' = ln ∧ s11 = .int .i64 i ∧ Below w4.heap.size w4 wr)
    case atStart => exact ⟨0, by omega, rfl, Below.refl _ _⟩
    case round =>
      obtain ⟨i, hi, rfl, hb5⟩ := hrel
      have HI := Lib.hid hi; clear hi
      have hmo := H4.out.1.step hb5
      by_cases hlt : i < ln
      · have hi5 := H4.out.2.2.below hb5 (Nat.le_refl _)
        obtain ⟨x, hx, _⟩ := hmo.out.has.get hlt
        have hx' : (hasM m)[i]? = some x := hx
        have hy := payL_has HC.out.2 HC.out.1 hx'
        have hpv := paysV_out HC.out.2 hx'
        rw [← hpv] at hy
        obtain ⟨lb, lo, rfl⟩ := hi5.addr (by omega)
        have cy := hi5.cell lb lo rfl i _ hy
        have i0 : (0 : Int) ≤ (i : Int) := by omega
        have i1 : (i : Int) < (ln : Int) := by omega
        obtain ⟨v, hv⟩ : ∃ v, v = paysV (outM m) (i : Int) := ⟨_, rfl⟩
        rw [← hv] at cy
        have HVV := Lib.hid hv; clear hv hpv hy hx hx'
        have HMO := Lib.hid hmo; clear hmo hi5
        have HB5 := Lib.hid hb5; clear hb5
        have e3 : (v != v) = false := by simp
        go_wp2_with fail
        have hbd : Below wr.heap.size wr wr.drew := (Below.refl _ _).drew
        have hne' : Nonempty (Kept (Below wr.heap.size wr)) := ⟨⟨_, hbd⟩⟩
        have k1 : ∀ z : Kept (Below wr.heap.size wr), z.w.cell? ⟨w1.heap.size, 0, none⟩ = some (.slice ha ln hcp) := fun z => (HMO.out.step z.h).v2.cell (k := 0) rfl
        have k2 : ∀ z : Kept (Below wr.heap.size wr), z.w.cell? ⟨w1.heap.size, 1, none⟩ = some (.slice pa rn rn) := fun z => (HMO.out.step z.h).v2.cell (k := 1) rfl
        have k3 : ∀ z : Kept (Below wr.heap.size wr), z.w.cell? ⟨lb, lo + i, none⟩ = some (.int .i64 v) := fun z => cell_step z.h cy
        have hpk := fun (y : Kept (Below wr.heap.size wr)) => pays_kept (i : Int) HMO.out.out y
        rw [← HVV.out] at hpk
        have HPK := Lib.hid hpk; clear hpk
        refine wp_region_kept (Below wr.heap.size wr) (by kernel_rfl) (by kernel_rfl) hbd ?_
        repeat (go_big_quiet_step ((go_at_call 17; exact HPK.out _)))
        refine wpQuiet_nil ?_
        intro _ hw'
        obtain ⟨⟨w6, hb6⟩, rfl⟩ := hw'
        clear k1 k2 k3 hne'
        go_wp2_with fail
        go_roundg (gk - 1)
        case measure => have := HI.out; omega
        case rel => exact ⟨i + 1, by have := HI.out; omega, by go_num, HB5.out.trans (hb6.mono HB5.out.size)⟩
      · obtain rfl : i = ln := by have := HI.out; omega
        have c0 := hmo.v1.cell (k := 0) rfl
        have c1 := hmo.v1.cell (k := 1) rfl
        have c2 := hmo.v1.cell (k := 2) rfl
        have q0 := hmo.v2.cell (k := 0) rfl
        have q1 := hmo.v2.cell (k := 1) rfl
        have hE := Even_any _ _ _ _ _ _ _ _ _ _ _ _ _ _ _ m (outM m) wr hmo.mkt hmo.out
        rw [evenB_of HEV.out] at hE
        have HE := Lib.hid hE
        have H5 := Lib.hid (And.intro hmo (H4.out.2.1.below hb5 (Nat.le_refl _))); clear hmo hb5 hE
        obtain ⟨bv, hbv⟩ : ∃ bv, bv = bestVal (gainsM m) rn := ⟨_, rfl⟩
        rw [← hbv]
        have HBV := Lib.hid hbv; clear hbv
        go_wp2_with fail
        refine HE.out.mono ?_
        rintro e w6 ⟨rfl, hb6⟩
        have hmo := H5.out.1.step hb6
        clear c0 c1 c2 q0 q1
        have q0 := hmo.v2.cell (k := 0) rfl
        have hsm := sum15_any ga ha i i i hcp m (hasM m) w6 HC.out.2 (H5.out.2.below hb6 (Nat.le_refl _)) hmo.out.has (hasM_length m) HEV.out.fit.item
        rw [show sTo m (hasM m) m.bids.length = bv from by rw [HBV.out, ← HL.out.1]; exact sTo_best HEV.out] at hsm
        have HSM := Lib.hid hsm
        have e3 : (bv == bv) = true := by simp
        have H6 := Lib.hid hmo; clear hmo hb6 hsm
        go_wp2_with fail
        refine HSM.out.mono ?_
        rintro e w7 ⟨rfl, hb7⟩
        have H7 := Lib.hid (H6.out.step hb7); clear hb7
        go_wp2_with fail
        refine (lives15_any w7).mono ?_
        rintro e w8 ⟨rfl, hb⟩
        have H8 := Lib.hid (H7.out.step hb); clear hb
        go_wp2_with fail
        go_ret
        exact ⟨rfl, H8.out.below⟩
  · have hc : mcheck m = false := by simpa using hc
    have HO := Lib.hid (Oof_no ra ba oa rn rc bn bc on oc m _ hm1 hc)
    have HV := Lib.hid (And.intro hv0 (And.intro hm1 hb0)); clear hv0 hm1 hb0 hm hrl hbl
    have HC := Lib.hid hc; clear hc
    go_enter Tryz.func14, Tryz.ntmps14
    go_wp2_with fail
    refine HO.out.mono ?_
    rintro e w1 ⟨rfl, hb⟩
    have hal : Below w1.heap.size w1 (w1.alloc (.cells #[.slice none 0 0, .slice none 0 0] 30)) := (Below.refl _ _).alloc (Nat.le_refl _) _
    have hb1 := hb.trans (hal.mono hb.size)
    have hv1 := HV.out.1.below hb1 HV.out.1.lt
    have hmm := HV.out.2.1.below hb1 (Nat.le_refl _)
    have c0 := hv1.cell (k := 0) rfl
    have c1 := hv1.cell (k := 1) rfl
    have c2 := hv1.cell (k := 2) rfl
    have hK := mcheck_any ra ba oa rn rc bn bc on oc m _ hmm.res hmm.bids hmm.ord
    rw [HC.out] at hK
    have HK := Lib.hid hK
    have H1 := Lib.hid (HV.out.2.2.trans (hb1.mono HV.out.2.2.size)); clear hb hal hb1 hv1 hmm hK HO
    go_wp2_with fail
    refine HK.out.mono ?_
    rintro e w2 ⟨rfl, hb⟩
    have H2 := Lib.hid (H1.out.trans (hb.mono H1.out.size)); clear hb
    go_wp2_with fail
    refine (lives15_any w2).mono ?_
    rintro e w3 ⟨rfl, hb⟩
    have H3 := Lib.hid (H2.out.trans (hb.mono H2.out.size)); clear hb
    go_wp2_with fail
    go_ret
    exact ⟨rfl, H3.out⟩
end Go.Proofs.YtbnjeegicbffeaaGreat
