/- Walks: salesroomlaw15.sum: what is had gains. Walks: the law OutcomesLeast. -/
import Derived.Test.YtbnjeegicbffeaaGreatG39
import Derived.Test.YtbnjeegicbffeaaGreatG24
import Derived.Test.YtbnjeegicbffeaaGreatG36
import Derived.Test.YtbnjeegicbffeaaGreatG28
/- Walks: salesroomlaw15.sum: what is had gains. -/
namespace Go.Proofs.YtbnjeegicbffeaaGreat
open Go.RowKit Sale

/-- what the first k have -/
def sTo (m : Mkt) (has : List Int) (k : Nat) : Int := total (gi (gainsM m)) (slotOf has) (List.range k)
theorem sTo_succ (m : Mkt) (has : List Int) (k : Nat) : sTo m has (k + 1) = sTo m has k + gain (gi (gainsM m)) (slotOf has) k := by
  unfold sTo
  rw [List.range_succ, total_append]
  simp [total]
theorem sTo_none {m : Mkt} {has : List Int} {k : Nat} (h : has[k]? = some (-1)) : sTo m has (k + 1) = sTo m has k := by
  rw [sTo_succ]
  unfold gain
  rw [slot_of h, if_pos rfl]; simp
theorem sTo_some {m : Mkt} {has : List Int} {k j : Nat} (h : has[k]? = some (j : Int)) : sTo m has (k + 1) = sTo m has k + gi (gainsM m) k j := by
  rw [sTo_succ]
  unfold gain
  rw [slot_of h, if_neg (by omega), Int.toNat_natCast]
theorem sTo_bd {m : Mkt} (hm : MOk m) (has : List Int) : ∀ k : Nat, -1000000 * (k : Int) ≤ sTo m has k ∧ sTo m has k ≤ 1000000 * (k : Int)
  | 0 => by simp [sTo, total]
  | k + 1 => by
    have ih := sTo_bd hm has k
    have hg : -1000000 ≤ gain (gi (gainsM m)) (slotOf has) k ∧ gain (gi (gainsM m)) (slotOf has) k ≤ 1000000 := by
      unfold gain
      cases slotOf has k with
      | none => simp
      | some j => exact hm.bd k j
    rw [sTo_succ]
    omega

set_option maxRecDepth 100000 in
set_option maxHeartbeats 2000000 in
theorem sum15_any (ga ha : Option Addr) (gn gc hn hc : Nat) (m : Mkt) (has : List Int) (w : World) (hm : MOk m) (hg : Rows w ga gn gc (gainsM m)) (hh : Ints w ha hn hc has) (hl : has.length = m.bids.length) (hit : ∀ x, x ∈ has → -1 ≤ x ∧ x < (m.res.length : Int)) :
    Calls Tryz.prog 26 #[.slice ga gn gc, .slice ha hn hc] w fun e w' => e = .returned (.int .i64 (sTo m has m.bids.length)) ∧ Below w.heap.size w w' := by
  have hgl := hg.len
  have hhl := hh.len
  rw [gainsM_length] at hgl
  have hgh : gn = hn := by omega
  have hb8 := hm.m8
  have hbn : m.bids.length = hn := by omega
  rw [hbn] at hb8 ⊢
  subst hgh
  have HG := Lib.hid hg; clear hg
  have HH := Lib.hid hh; clear hh
  have HIT := Lib.hid hit; clear hit
  have HM := Lib.hid hm; clear hm
  clear hgl hhl hl hbn
  go_enter Tryz.func26, Tryz.ntmps26
  go_wp2_with fail
  go_loopg [5, 6] gn (fun g' s5 s6 wr => ∃ k : Nat, k + g' = gn ∧ s6 = .int .i64 k ∧ s5 = .int .i64 (sTo m has k) ∧ Below w.heap.size w wr)
  case atStart => exact ⟨0, by omega, rfl, rfl, Below.refl _ _⟩
  case round =>
    obtain ⟨k, hk, rfl, rfl, hb⟩ := hrel
    have HK := Lib.hid hk; clear hk
    have hbd := sTo_bd HM.out has k
    by_cases hlt : k < gn
    · have hh := HH.out.below hb (Nat.le_refl _)
      have hg := HG.out.below hb (Nat.le_refl _)
      obtain ⟨x, hx, _⟩ := hh.get hlt
      obtain ⟨hb', ho', rfl⟩ := hh.addr (by omega)
      have cx := hh.cell hb' ho' rfl k x hx
      have hxi := HIT.out x (List.mem_of_getElem? hx)
      have k0 : (0 : Int) ≤ (k : Int) := by omega
      have k1 : (k : Int) < (gn : Int) := by omega
      have HB := Lib.hid hb; clear hb
      by_cases hne : x = -1
      · have hs := sTo_none (m := m) (has := has) (k := k) (by rw [← hne]; exact hx)
        have HS := Lib.hid hs; clear hs
        have e1 : decide (0 ≤ x) = false := by simp; omega
        obtain ⟨t, ht⟩ : ∃ t, t = sTo m has k := ⟨_, rfl⟩
        rw [← ht] at hbd ⊢
        have HT := Lib.hid ht; clear ht
        clear hx hxi hne hh hg
        go_wp2_with fail
        go_quiet (fail)
        go_wp2_with fail
        go_roundg (gk - 1)
        case measure => have := HK.out; omega
        case rel => exact ⟨k + 1, by have := HK.out; omega, by go_num, by rw [HS.out, HT.out], below_drewN HB.out _⟩
      · obtain ⟨j, rfl⟩ := Int.eq_ofNat_of_zero_le (show 0 ≤ x by omega)
        have hs := sTo_some (m := m) hx
        obtain ⟨row, hrow⟩ := hg.get hlt
        obtain ⟨gb, go', rfl⟩ := hg.addr (by omega)
        obtain ⟨la, ln, lc, hcl, hli⟩ := hg.cell gb go' rfl k row hrow
        have hln : ln = m.res.length := by have h1 := HM.out.rows.1 row (List.mem_of_getElem? hrow); have := hli.len; omega
        have hjl : j < ln := by omega
        obtain ⟨y, hy, _⟩ := hli.get hjl
        obtain ⟨lb, lo, rfl⟩ := hli.addr (by omega)
        have cy := hli.cell lb lo rfl j y hy
        have hgi : gi (gainsM m) k j = y := gi_at hrow hy
        have hyb := HM.out.bd k j
        rw [hgi] at hyb hs
        obtain ⟨hyb1, hyb2⟩ := hyb
        have HS := Lib.hid hs; clear hs
        have e1 : decide (0 ≤ (j : Int)) = true := by simp
        have e2 : decide ((j : Int) < (ln : Int)) = true := by simp; omega
        have e4 : decide (j < ln) = true := by simpa using hjl
        have j0 : (0 : Int) ≤ (j : Int) := by omega
        have j1 : (j : Int) < (ln : Int) := by omega
        obtain ⟨t, ht⟩ : ∃ t, t = sTo m has k := ⟨_, rfl⟩
        rw [← ht] at hbd HS ⊢
        have HT := Lib.hid ht; clear ht
        obtain ⟨hbd1, hbd2⟩ := hbd
        have e3 : IntKind.i64.wrap (t + y) = t + y := IntWalk.i64_in _ (by omega)
        clear hx hxi hne hh hg hrow hli hln hy hgi
        go_wp2_with fail
        go_quiet (fail)
        go_wp2_with fail
        go_quiet (fail)
        go_wp2_with fail
        go_roundg (gk - 1)
        case measure => have := HK.out; omega
        case rel => exact ⟨k + 1, by have := HK.out; omega, by go_num, by rw [HS.out], below_drewN HB.out _⟩
    · obtain rfl : k = gn := by have := HK.out; omega
      have HB := Lib.hid hb; clear hb hbd
      go_wp2_with fail
      go_ret
      exact ⟨rfl, HB.out⟩
end Go.Proofs.YtbnjeegicbffeaaGreat

/- Walks: the law OutcomesLeast. -/
namespace Go.Proofs.YtbnjeegicbffeaaGreat
open Go.RowKit Sale

theorem lives15_kept (w0 : World) (y : Kept (Below w0.heap.size w0)) : Calls Tryz.prog 22 #[] y.w fun e w' => e = .returned (.bool true) ∧ ∃ z : Kept (Below w0.heap.size w0), w' = z.w :=
  Kept.call ((lives15_any y.w).mono fun _ _ ⟨h1, h2⟩ => ⟨h1, y.h.trans (h2.mono y.h.size)⟩)
/-- the best, as Best tells it -/
theorem best_most {m : Mkt} (_hm : MOk m) : bestVal (gainsM m) m.res.length = opt (gi (gainsM m)) m.res.length (List.range m.bids.length) (fun _ => true) := by
  unfold bestVal
  rw [gainsM_length]
theorem Best_yes {m : Mkt} (hm : MOk m) (ga : Option Addr) (gn gc : Nat) (w : World) (hg : Rows w ga gn gc (gainsM m)) :
    Calls Tryz.prog 25 #[.slice ga gn gc, .int .i64 (m.res.length : Nat)] w fun e w' => e = .returned (.tuple #[.int .i64 (bestVal (gainsM m) m.res.length), .int .i64 0]) ∧ Below w.heap.size w w' := by
  have h := Best_any ga gn gc (gainsM m) (m.res.length : Nat) w hg
  rw [hm.wcheck, if_pos rfl, if_pos rfl, Int.toNat_natCast] at h
  exact h
theorem mo_new (w : World) {ra ba oa ha pa : Option Addr} {rn rc bn bc on oc hn hc pn pc : Nat} {m : Mkt} {o : Outc} (hm : MktAt w ra ba oa rn rc bn bc on oc m) (ho : OutAt w ha pa hn hc pn pc o) :
    MoAt w w.heap.size (w.heap.size + 1) ra ba oa ha pa rn rc bn bc on oc hn hc pn pc m o ((w.alloc (.cells #[.slice ra rn rc, .slice ba bn bc, .slice oa on oc] 28)).alloc (.cells #[.slice ha hn hc, .slice pa pn pc] 30)) := by
  have hb : Below w.heap.size w ((w.alloc (.cells #[.slice ra rn rc, .slice ba bn bc, .slice oa on oc] 28)).alloc (.cells #[.slice ha hn hc, .slice pa pn pc] 30)) := ((Below.refl _ w).alloc (Nat.le_refl _) _).alloc (by simp) _
  have h1 := VRow.new w 28 [.slice ra rn rc, .slice ba bn bc, .slice oa on oc]
  have h2 := VRow.new (w.alloc (.cells #[.slice ra rn rc, .slice ba bn bc, .slice oa on oc] 28)) 30 [.slice ha hn hc, .slice pa pn pc]
  rw [show (w.alloc (.cells #[.slice ra rn rc, .slice ba bn bc, .slice oa on oc] 28)).heap.size = w.heap.size + 1 by simp] at h2
  exact ⟨h1.alloc _, h2, hm.below hb (Nat.le_refl _), ho.below hb (Nat.le_refl _), hb⟩

theorem sTo_best {m : Mkt} {o : Outc} (h : EvOk m o) : sTo m o.has m.bids.length = bestVal (gainsM m) m.res.length := by
  rw [best_most h.fit.mok]; exact h.most

set_option maxRecDepth 100000 in
set_option maxHeartbeats 4000000 in
theorem outcomesLeast_any (ra ba oa ha pa : Option Addr) (rn rc bn bc on oc hn hc pn pc : Nat) (m : Mkt) (o : Outc) (w : World) (hm : MktAt w ra ba oa rn rc bn bc on oc m) (ho : OutAt w ha pa hn hc pn pc o) :
    Calls Tryz.prog 5 #[.agg #[.slice ra rn rc, .slice ba bn bc, .slice oa on oc], .agg #[.slice ha hn hc, .slice pa pn pc]] w fun e w' => e = .returned (.bool true) ∧ Below w.heap.size w w' := by
  have HB0 := Lib.hid (mo_new w hm ho)
  have HE := Lib.hid (Even_any ra ba oa ha pa rn rc bn bc on oc hn hc pn pc m o _ HB0.out.mkt HB0.out.out)
  have hrl := hm.res.len
  have hbl := hm.bids.len
  have hhl := ho.has.len
  have hpl := ho.prices.len
  have HL := Lib.hid (And.intro hrl (And.intro hbl (And.intro hhl hpl)))
  clear hm ho hrl hbl hhl hpl
  go_enter Tryz.func5, Tryz.ntmps5
  go_wp2_with fail
  refine HE.out.mono ?_
  cases hev : evenB m o with
  | false =>
    clear hev
    rintro e w1 ⟨rfl, hb⟩
    have HB1 := Lib.hid (HB0.out.step hb); clear hb
    go_wp2_with fail
    refine (lives15_any w1).mono ?_
    rintro e w2 ⟨rfl, hb⟩
    have HB2 := Lib.hid (HB1.out.step hb); clear hb
    go_wp2_with fail
    go_ret
    exact ⟨rfl, HB2.out.below⟩
  | true =>
    have hok := evenB_ok hev
    have hpn : pn = rn := by have := hok.fit.plen; have := HL.out; omega
    have hhn : hn = bn := by have := hok.fit.hlen; have := HL.out; omega
    have hn8 := hok.fit.mok.n8
    have hm8 := hok.fit.mok.m8
    rw [HL.out.1] at hn8
    rw [HL.out.2.1] at hm8
    subst hpn
    subst hhn
    have HOK := Lib.hid hok; clear hok hev
    rintro e w1 ⟨rfl, hb⟩
    have hmo := HB0.out.step hb
    have p0 := hmo.v1.cell (k := 0) rfl
    have p1 := hmo.v1.cell (k := 1) rfl
    have p2 := hmo.v1.cell (k := 2) rfl
    have HOF := Lib.hid (Oof_yes ra ba oa pn rc hn bc on oc m w1 hmo.mkt HOK.out.fit.chk)
    have HB1 := Lib.hid hmo; clear hb hmo HE HB0
    go_wp2_with fail
    refine HOF.out.mono ?_
    rintro e w2 ⟨ha2, pa2, hcp, rfl, ho2, hb2⟩
    have hal : Below w2.heap.size w2 (w2.alloc (.cells #[.slice ha2 hn hcp, .slice pa2 pn pn] 30)) := (Below.refl _ _).alloc (Nat.le_refl _) _
    have hmo3 := (HB1.out.step hb2).step hal
    have hx3 := BoxO.new ho2
    clear p0 p1 p2
    have p0 := hmo3.v1.cell (k := 0) rfl
    have p1 := hmo3.v1.cell (k := 1) rfl
    have p2 := hmo3.v1.cell (k := 2) rfl
    have HG := Lib.hid (Gains_yes ra ba oa pn rc hn bc on oc m _ hmo3.mkt HOK.out.fit.chk)
    have H3 := Lib.hid (And.intro hmo3 hx3); clear hmo3 hx3 ho2 hb2 hal HOF HB1
    go_wp2_with fail
    refine HG.out.mono ?_
    rintro e w4 ⟨ga, rfl, hg, hb4⟩
    have hmo4 := H3.out.1.step hb4
    have hx4 := H3.out.2.step hb4
    clear p0 p1 p2
    have p0 := hmo4.v1.cell (k := 0) rfl
    have hB := Best_yes HOK.out.fit.mok ga hn hn w4 hg
    rw [HL.out.1] at hB
    have HB := Lib.hid hB
    have H4 := Lib.hid (And.intro hmo4 (And.intro hx4 hg)); clear hmo4 hx4 hg hb4 hB HG H3
    go_wp2_with fail
    refine HB.out.mono ?_
    rintro e w5 ⟨rfl, hb5⟩
    have hmo5 := H4.out.1.step hb5
    have hx5 := H4.out.2.1.step hb5
    have q1 := hmo5.v2.cell (k := 1) rfl
    have r1 := hx5.row.cell (k := 1) rfl
    have H5 := Lib.hid (And.intro hmo5 (And.intro hx5 (H4.out.2.2.below hb5 (Nat.le_refl _)))); clear hmo5 hx5 hb5 HB H4 p0
    go_wp2_with fail
    clear q1 r1
    go_loopg [11] pn (fun g' s11 wr => ∃ j : Nat, j + g' = pn ∧ s11 = .int .i64 j ∧ Below w5.heap.size w5 wr)
    case atStart => exact ⟨0, by omega, rfl, Below.refl _ _⟩
    case round =>
      obtain ⟨j, hj, rfl, hb⟩ := hrel
      have HJ := Lib.hid hj; clear hj
      have hmo := H5.out.1.step hb
      have hx := H5.out.2.1.step hb
      have q1 := hmo.v2.cell (k := 1) rfl
      have r1 := hx.row.cell (k := 1) rfl
      by_cases hlt : j < pn
      · obtain ⟨y, hy, _⟩ := hmo.out.prices.get hlt
        obtain ⟨z, hz, _⟩ := hx.out.prices.get hlt
        have hle := HOK.out.low (k := j) (by rw [HL.out.1]; exact hlt)
        have hz' : (leastM m)[j]? = some z := hz
        rw [getD_at hy, getD_at hz'] at hle
        obtain ⟨yb, yo, rfl⟩ := hmo.out.prices.addr (by omega)
        obtain ⟨zb, zo, rfl⟩ := hx.out.prices.addr (by omega)
        have cy := hmo.out.prices.cell yb yo rfl j y hy
        have cz := hx.out.prices.cell zb zo rfl j z hz
        have j0 : (0 : Int) ≤ (j : Int) := by omega
        have j1 : (j : Int) < (pn : Int) := by omega
        have e1 : decide (y < z) = false := by simpa using hle
        have HB := Lib.hid hb; clear hb hmo hx hy hz hz' hle
        go_wp2_with fail
        go_quiet (fail)
        go_wp2_with fail
        go_roundg (gk - 1)
        case measure => have := HJ.out; omega
        case rel => exact ⟨j + 1, by have := HJ.out; omega, by go_num, below_drewN HB.out _⟩
      · obtain rfl : j = pn := by have := HJ.out; omega
        clear r1
        have q0 := hmo.v2.cell (k := 0) rfl
        have hsm := sum15_any ga ha hn hn hn hc m o.has wr HOK.out.fit.mok (H5.out.2.2.below hb (Nat.le_refl _)) hmo.out.has HOK.out.fit.hlen HOK.out.fit.item
        rw [sTo_best HOK.out, HL.out.1] at hsm
        have HSM := Lib.hid hsm; clear hsm
        have H6 := Lib.hid (And.intro hmo hx); clear hmo hx hb
        obtain ⟨bv, hbv⟩ : ∃ bv, bv = bestVal (gainsM m) j := ⟨_, rfl⟩
        rw [← hbv] at HSM ⊢
        clear hbv
        go_wp2_with fail
        refine HSM.out.mono ?_
        rintro e w7 ⟨rfl, hb7⟩
        have hmo7 := H6.out.1.step hb7
        have hx7 := H6.out.2.step hb7
        have e3 : (bv == bv) = true := by simp
        clear q0 q1
        have p0 := hmo7.v1.cell (k := 0) rfl
        have p1 := hmo7.v1.cell (k := 1) rfl
        have p2 := hmo7.v1.cell (k := 2) rfl
        have q0 := hmo7.v2.cell (k := 0) rfl
        have r1 := hx7.row.cell (k := 1) rfl
        have hE := Even_any ra ba oa ha pa2 j rc hn bc on oc hn hc j j m ⟨o.has, leastM m⟩ w7 hmo7.mkt ⟨hmo7.out.has, hx7.out.prices⟩
        rw [evenB_of HOK.out.withLeast] at hE
        have HE := Lib.hid hE; clear hE
        have H7 := Lib.hid (And.intro hmo7 hx7); clear hmo7 hx7 hb7 H6 HSM
        go_wp2_with fail
        refine HE.out.mono ?_
        rintro e w8 ⟨rfl, hb8⟩
        have hmo8 := H7.out.1.step hb8
        have hx8 := H7.out.2.step hb8
        clear p0 p1 p2 q0 r1
        have p0 := hmo8.v1.cell (k := 0) rfl
        have p1 := hmo8.v1.cell (k := 1) rfl
        have p2 := hmo8.v1.cell (k := 2) rfl
        have q1 := hmo8.v2.cell (k := 1) rfl
        have r0 := hx8.row.cell (k := 0) rfl
        have hE := Even_any ra ba oa ha2 pa j rc hn bc on oc hn hcp j pc m ⟨hasM m, o.prices⟩ w8 hmo8.mkt ⟨hx8.out.has, hmo8.out.prices⟩
        rw [evenB_of HOK.out.withHas] at hE
        clear HE
        have HE := Lib.hid hE; clear hE
        have H8 := Lib.hid hmo8; clear hmo8 hx8 hb8 H7
        go_wp2_with fail
        refine HE.out.mono ?_
        rintro e w9 ⟨rfl, hb9⟩
        have H9 := Lib.hid (H8.out.step hb9); clear hb9
        go_wp2_with fail
        refine (lives15_any w9).mono ?_
        rintro e w10 ⟨rfl, hb⟩
        have H10 := Lib.hid (H9.out.step hb); clear hb
        go_wp2_with fail
        go_ret
        exact ⟨rfl, H10.out.below⟩
end Go.Proofs.YtbnjeegicbffeaaGreat
