/- Walks: the reference's forests: what is found. -/
import Derived.Test.YtkddkkcfpnndlaaDoorFo24
import Derived.Test.YtkddkkcfpnndlaaDoorFo26
namespace Go.Proofs.YtkddkkcfpnndlaaDoor
open Go.RowKit Sale Tree

set_option maxRecDepth 100000 in
set_option maxHeartbeats 1000000 in
theorem of16_no (ra ba oa ha pa : Option Addr) (rn rc bn bc on oc hn hc pn pc : Nat) (m : Mkt) (o : Outc) (w : World) (hm : MktAt w ra ba oa rn rc bn bc on oc m) (ho : OutAt w ha pa hn hc pn pc o) (hs : Short rn bn on m) (hfb : ofitsB m o = false) :
    Calls Tryd.prog 9 #[.agg #[.slice ra rn rc, .slice ba bn bc, .slice oa on oc], .agg #[.slice ha hn hc, .slice pa pn pc]] w fun e w' => e = .returned (.tuple #[.slice none 0 0, .int .i64 1]) ∧ Below w.heap.size w w' := by
  have hv0 := WAt.new w hm ho
  obtain ⟨w1, hw1⟩ : ∃ w1, w1 = wa0 w ra ba oa ha pa rn rc bn bc on oc hn hc pn pc := ⟨_, rfl⟩
  rw [← hw1] at hv0
  have hw1' : (w.alloc (.cells #[.slice ra rn rc, .slice ba bn bc, .slice oa on oc] 25)).alloc (.cells #[.slice ha hn hc, .slice pa pn pc] 27) = w1 := hw1.symm
  clear hw1 hm ho
  have c0 := hv0.v1.cell (k := 0) rfl
  have c1 := hv0.v1.cell (k := 1) rfl
  have c2 := hv0.v1.cell (k := 2) rfl
  have d0 := hv0.v2.cell (k := 0) rfl
  have d1 := hv0.v2.cell (k := 1) rfl
  have HV0 := Lib.hid hv0; clear hv0
  have HS := Lib.hid hs; clear hs
  have HFB := Lib.hid hfb; clear hfb
  go_enter Tryd.func9, Tryd.ntmps9
  go_wp2_with fail
  try rw [hw1']
  clear hw1'
  refine (fits16_any ra ba oa ha pa rn rc bn bc on oc hn hc pn pc m o w1 HV0.out.mkt HV0.out.out HS.out).mono ?_
  rw [HFB.out]
  rintro e w2 ⟨rfl, hb⟩
  have HV1 := Lib.hid (HV0.out.step hb); clear hb HV0 c0 c1 c2 d0 d1
  go_wp2_with fail
  go_ret2
  exact ⟨rfl, HV1.out.below⟩

/-- in a first list: at its reserve, or not yet -/
theorem refL0_snoc {m : Mkt} {o : Outc} {N j : Nat} (hj : j < N) : (refL N (lv (woodOf m o) 0)).take (j + 1) = (refL N (lv (woodOf m o) 0)).take j ++ [if resB m o j = true then (-1, 0) else (-1, -1)] := by
  rw [List.take_add_one, refL_get hj]
  show _ ++ [refV (if (woodOf m o).res j = true then some (-1, 0) else none)] = _
  show _ ++ [refV (if resB m o j = true then some (-1, 0) else none)] = _
  by_cases h : resB m o j = true
  · rw [if_pos h, if_pos h]; rfl
  · rw [if_neg h, if_neg h]; rfl

set_option maxRecDepth 100000 in
set_option maxHeartbeats 8000000 in
theorem of16_yes (ra ba oa ha pa : Option Addr) (rn rc bn bc on oc hn hc pn pc : Nat) (m : Mkt) (o : Outc) (w : World) (hm : MktAt w ra ba oa rn rc bn bc on oc m) (ho : OutAt w ha pa hn hc pn pc o) (hs : Short rn bn on m) (hfb : ofitsB m o = true) :
    Calls Tryd.prog 9 #[.agg #[.slice ra rn rc, .slice ba bn bc, .slice oa on oc], .agg #[.slice ha hn hc, .slice pa pn pc]] w (FofSays m o w) := by
  have hfit := ofitsB_ok hfb
  have hhn : hn = bn := by rw [← ho.has.len, ← hm.bids.len]; exact hfit.hlen
  have hpn : pn = rn := by rw [← ho.prices.len, ← hm.res.len]; exact hfit.plen
  have hhl := ho.has.len
  have hpl := ho.prices.len
  have hn1 := hfit.mok.n1
  have hn8 := hfit.mok.n8
  have hm8 := hfit.mok.m8
  rw [hm.res.len] at hn1 hn8
  rw [hm.bids.len] at hm8
  have hv0 := WAt.new w hm ho
  clear hm ho
  subst hhn
  subst hpn
  obtain ⟨w1, hw1⟩ : ∃ w1, w1 = wa0 w ra ba oa ha pa pn rc hn bc on oc hn hc pn pc := ⟨_, rfl⟩
  rw [← hw1] at hv0
  have hw1' : (w.alloc (.cells #[.slice ra pn rc, .slice ba hn bc, .slice oa on oc] 25)).alloc (.cells #[.slice ha hn hc, .slice pa pn pc] 27) = w1 := hw1.symm
  clear hw1
  have c0 := hv0.v1.cell (k := 0) rfl
  have c1 := hv0.v1.cell (k := 1) rfl
  have c2 := hv0.v1.cell (k := 2) rfl
  have d0 := hv0.v2.cell (k := 0) rfl
  have d1 := hv0.v2.cell (k := 1) rfl
  have HV0 := Lib.hid hv0; clear hv0
  have HS := Lib.hid hs; clear hs
  have HFB := Lib.hid hfb; clear hfb
  have HFIT := Lib.hid hfit; clear hfit
  have HHL := Lib.hid hhl; clear hhl
  have HPL := Lib.hid hpl; clear hpl
  go_enter Tryd.func9, Tryd.ntmps9
  go_wp2_with fail
  try rw [hw1']
  clear hw1'
  refine (fits16_any ra ba oa ha pa pn rc hn bc on oc hn hc pn pc m o w1 HV0.out.mkt HV0.out.out HS.out).mono ?_
  rw [HFB.out]
  rintro e w2 ⟨rfl, hb⟩
  have HV1 := Lib.hid (HV0.out.step hb)
  have hz1 := hb.size
  clear hb HV0 c0 c1 c2 d0 d1
  obtain ⟨B1, hB1⟩ : ∃ B1, B1 = w.heap.size := ⟨_, rfl⟩
  obtain ⟨B2, hB2⟩ : ∃ B2, B2 = w.heap.size + 1 := ⟨_, rfl⟩
  have HV1' := Lib.hid (show WAt w B1 B2 ra ba oa ha pa pn rc hn bc on oc hn hc pn pc m o w2 by rw [hB1, hB2]; exact HV1.out)
  rw [← hB2, ← hB1]
  clear hB1 hB2 HV1 hz1
  go_wp2_with fail
  go_loopg [6, 7] pn (fun g' s6 s7 wr => ∃ j : Nat, j + g' = pn ∧ s7 = .int .i64 j ∧ OwnW wr w2.heap.size s6 ((refL pn (lv (woodOf m o) 0)).take j) ∧ Below w2.heap.size w2 wr)
  case atStart => exact ⟨0, by omega, rfl, by simpa using OwnW.nil w2 w2.heap.size, Below.refl _ _⟩
  case round =>
    obtain ⟨j, hj, rfl, hO, hB⟩ := hrel
    have HJ := Lib.hid hj; clear hj
    have HO := Lib.hid hO; clear hO
    have hbs := hB.size
    have hV := HV1'.out.step hB
    have r0 := hV.v1.cell (k := 0) rfl
    have r1 := hV.v2.cell (k := 1) rfl
    by_cases hlt : j < pn
    · obtain ⟨pr, hpr, _⟩ := hV.out.prices.get hlt
      obtain ⟨prb, pro, rfl⟩ := hV.out.prices.addr (by omega)
      have cpr := hV.out.prices.cell prb pro rfl j pr hpr
      obtain ⟨rr, hrr, _⟩ := hV.mkt.res.get hlt
      obtain ⟨rrb, rro, rfl⟩ := hV.mkt.res.addr (by omega)
      have crr := hV.mkt.res.cell rrb rro rfl j rr hrr
      have hre : resB m o j = (pr == rr) := by unfold resB; rw [getD_at hpr, getD_at hrr]
      have hsn := refL0_snoc (m := m) (o := o) hlt
      rw [hre] at hsn
      have HSN := Lib.hid hsn; clear hsn hre hpr hrr
      have HB := Lib.hid hB; clear hB hV
      have i1 : (j : Int) < (pn : Int) := by omega
      have hll : ((refL pn (lv (woodOf m o) 0)).take j).length = j := by rw [List.length_take, refL_length]; omega
      have HLL := Lib.hid hll; clear hll
      obtain ⟨zs, hzs⟩ : ∃ zs, zs = (refL pn (lv (woodOf m o) 0)).take j := ⟨_, rfl⟩
      rw [← hzs] at HO HLL HSN
      clear hzs
      by_cases hpe : pr = rr
      · have e0 : (pr == rr) = true := by simpa using hpe
        have HE := Lib.hid e0
        clear hpe
        go_wp2_with fail
        go_quiet (fail)
        go_wp2_with (at_builtin; refine appW1 _ rfl _ _ rfl w2.heap.size _ zs rfl (HO.out.step (((below_drewN (Below.refl _ _) nq)).alloc (Nat.le_refl _) _)) (wr.drewN nq).heap.size (-1, 0) rfl (cell2_new (wr.drewN nq) _ _ _).1 (cell2_new (wr.drewN nq) _ _ _).2 (by rw [HLL.out]; omega) (by simp; omega) ?_)
        intro g c w' hO' hb'
        have HO2 := Lib.hid hO'; clear hO'
        have HB2 := Lib.hid ((HB.out.trans ((((below_drewN (Below.refl _ _) nq)).alloc (Nat.le_refl _) _).mono HB.out.size)).trans hb'); clear hb'
        go_wp2_with fail
        go_roundg (gk - 1)
        case measure => have := HJ.out; omega
        case rel => exact ⟨j + 1, by have := HJ.out; omega, by go_num, by rw [HSN.out, if_pos HE.out]; exact HO2.out, HB2.out⟩
      · have e0 : (pr == rr) = false := by simpa using hpe
        have HE := Lib.hid e0
        clear hpe
        go_wp2_with fail
        go_quiet (fail)
        go_wp2_with (at_builtin; refine appW1 _ rfl _ _ rfl w2.heap.size _ zs rfl (HO.out.step (((below_drewN (Below.refl _ _) nq)).alloc (Nat.le_refl _) _)) (wr.drewN nq).heap.size (-1, -1) rfl (cell2_new (wr.drewN nq) _ _ _).1 (cell2_new (wr.drewN nq) _ _ _).2 (by rw [HLL.out]; omega) (by simp; omega) ?_)
        intro g c w' hO' hb'
        have HO2 := Lib.hid hO'; clear hO'
        have HB2 := Lib.hid ((HB.out.trans ((((below_drewN (Below.refl _ _) nq)).alloc (Nat.le_refl _) _).mono HB.out.size)).trans hb'); clear hb'
        go_wp2_with fail
        go_roundg (gk - 1)
        case measure => have := HJ.out; omega
        case rel => exact ⟨j + 1, by have := HJ.out; omega, by go_num, by rw [HSN.out, HE.out, if_neg (by decide)]; exact HO2.out, HB2.out⟩
    · obtain rfl : j = pn := by have := HJ.out; omega
      have hO2 := HO.out
      rw [List.take_of_length_le (by rw [refL_length]; exact Nat.le_refl _)] at hO2
      obtain ⟨g0, cc0, rfl, hg0⟩ := hO2.form (by rw [refL_length]; omega)
      clear hg0
      rw [refL_length] at hO2 ⊢
      have HO2 := Lib.hid hO2; clear hO2 HO
      have HV3 := Lib.hid hV; clear hV
      have HB := Lib.hid hB; clear hB
      go_wp2_with fail
      clear r0 r1
      go_loopg [6, 8, 9, 10, 11, 12] j (fun g' s6 s8 s9 s10 s11 s12 wr => ∃ r g c : Nat, r + g' = j ∧ s8 = .int .i64 ((r : Int) + 1) ∧ s6 = .slice (some ⟨g, 0, none⟩) j c ∧ OwnW wr w2.heap.size (.slice (some ⟨g, 0, none⟩) j c) (refL j (lv (woodOf m o) r)) ∧ Below w2.heap.size w2 wr)
      case atStart => exact ⟨0, g0, cc0, by omega, rfl, rfl, HO2.out, HB.out⟩
      case round =>
        clear HO2 HB HV3 hbs
        obtain ⟨r, g, c, hr, rfl, rfl, hO, hB⟩ := hrel
        obtain ⟨w3, rfl⟩ : ∃ w3, w3 = wr := ⟨_, rfl⟩
        have HR := Lib.hid hr; clear hr
        have hbs := hB.size
        have hgl := (World.ownsRow.lt hO g rfl).2
        have HV3 := Lib.hid (HV1'.out.step hB)
        have HB := Lib.hid hB; clear hB
        have HO := Lib.hid hO; clear hO
        by_cases hlt2 : r < j
        · have e1 : decide ((r : Int) + 1 ≤ (j : Int)) = true := by simp; omega
          obtain ⟨gR, hgR⟩ : ∃ n, n = gk - 1 := ⟨_, rfl⟩
          have HGR := Lib.hid hgR; clear hgR
          go_wp2_with (at_builtin; refine appWAll _ rfl _ _ rfl rfl w2.heap.size g c j (refL j (lv (woodOf m o) r)) rfl (refL_length _ _) HO.out (by omega) (by omega) ?_)
          intro g2 c2 w4 hO2 hb4
          have hg2 := World.ownsRow.lt hO2 g2 rfl
          have HO2 := Lib.hid hO2; clear hO2
          have HB4 := Lib.hid hb4; clear hb4
          go_wp2_with fail
          go_loopg [10, 11, 12] j (fun g' s10 s11 s12 wr => ∃ k : Nat, k + g' = j ∧ s10 = .int .i64 k ∧ OwnW wr w3.heap.size (.slice (some ⟨g2, 0, none⟩) j c2) (partL (woodOf m o) j (lv (woodOf m o) r) r k) ∧ Below w3.heap.size w3 wr)
          case atStart => exact ⟨0, by omega, rfl, by rw [partL_zero]; exact HO2.out, HB4.out⟩
          case round =>
            obtain ⟨k, hk, rfl, hP, hB5⟩ := hrel
            obtain ⟨w5, rfl⟩ : ∃ w5, w5 = wr := ⟨_, rfl⟩
            have HK := Lib.hid hk; clear hk
            have HP := Lib.hid hP; clear hP
            have HB5 := Lib.hid hB5; clear hB5
            have hO5 := HO.out.keep HB5.out (fun g' e => by cases e; exact hgl)
            have HO5 := Lib.hid hO5; clear hO5
            by_cases hlk : k < j
            · obtain ⟨ss, hss⟩ : ∃ ss, ss = lv (woodOf m o) r := ⟨_, rfl⟩
              rw [← hss] at HO5 HP
              obtain ⟨cr1, cr2, -, -⟩ := HO5.out.cell (refL_get (s := ss) hlk)
              have i1 : (k : Int) < (j : Int) := by omega
              obtain ⟨gK, hgK⟩ : ∃ n, n = gk - 1 := ⟨_, rfl⟩
              have HGK := Lib.hid hgK; clear hgK
              cases hs : ss k with
              | some x =>
                rw [hs] at cr2
                have cr2' : w5.cell? ⟨g, k * 2 + 1, none⟩ = some (.int .i64 (x.2 : Int)) := cr2
                have hsame := partL_same (W := woodOf m o) (N := j) (s := ss) (r := r) (j := k) (by rw [grow_some hs, hs])
                have HSA := Lib.hid hsame; clear hsame hs cr2
                obtain ⟨xr, hxr⟩ : ∃ xr, xr = x.2 := ⟨_, rfl⟩
                rw [← hxr] at cr2'
                clear hxr
                have e2 : decide (0 ≤ (xr : Int)) = true := by simp
                have HSS := Lib.hid hss; clear hss cr1
                go_wp2_with fail
                go_roundg gK
                case measure => have := HK.out; have := HGK.out; omega
                case rel => exact ⟨k + 1, by have := HK.out; have := HGK.out; omega, by go_num, by rw [← HSS.out, HSA.out]; exact HP.out, HB5.out⟩
              | none =>
                rw [hs] at cr2
                have cr2' : w5.cell? ⟨g, k * 2 + 1, none⟩ = some (.int .i64 (-1)) := cr2
                have e2 : decide (0 ≤ (-1 : Int)) = false := by simp
                have HSN := Lib.hid hs; clear hs cr2 cr1
                have HSS := Lib.hid hss; clear hss
                go_wp2_with fail
                clear cr2'
                go_loopg [11, 12] hn (fun g' s11 s12 wr => ∃ (i : Nat) (l : List (Int × Int)), i + g' = hn ∧ s11 = .int .i64 i ∧ OwnW wr w3.heap.size (.slice (some ⟨g2, 0, none⟩) j c2) l ∧ Below w3.heap.size w3 wr ∧ At4 (woodOf m o) j ss r k i l)
                case atStart => exact ⟨0, _, by omega, rfl, HP.out, HB5.out, At4.start _ _ _ _ _⟩
                case round =>
                  clear HP HB5 HO5 e2
                  obtain ⟨i, l, hi, rfl, hP, hB5, h4⟩ := hrel
                  obtain ⟨w6, rfl⟩ : ∃ w6, w6 = wr := ⟨_, rfl⟩
                  have hll := h4.length
                  have HI := Lib.hid hi; clear hi
                  have HP := Lib.hid hP; clear hP
                  have HV6 := Lib.hid (HV3.out.step hB5)
                  have HO6 := Lib.hid (HO.out.keep hB5 (fun g' e => by cases e; exact hgl))
                  have HB6 := Lib.hid hB5; clear hB5
                  have HLL := Lib.hid hll; clear hll
                  rcases h4 with ⟨hf4, hl4⟩ | ⟨i0, hf4, hl4⟩
                  · have hlk4 : l[k]? = some ((-1 : Int), (-1 : Int)) := by rw [hl4, partL_get hlk, if_neg (by omega), HSN.out]; rfl
                    obtain ⟨-, cn2, cnf, -⟩ := HP.out.cell hlk4
                    have cn2' : w6.cell? ⟨g2, k * 2 + 1, none⟩ = some (.int .i64 (-1)) := cn2
                    have cn1' : w6.cell? ⟨g2, k * 2, none⟩ = some (.int .i64 (-1)) := (HP.out.cell hlk4).1
                    have cf1 := cnf (k * 2)
                    have cf2 := cnf (k * 2 + 1)
                    have HL4 := Lib.hid hl4; clear hl4 cn2 cnf
                    have HF4 := Lib.hid hf4; clear hf4
                    have HLK := Lib.hid hlk4; clear hlk4
                    have r0 := HV6.out.v2.cell (k := 0) rfl
                    by_cases hih : i < hn
                    · obtain ⟨x, hx, _⟩ := HV6.out.out.has.get hih
                      obtain ⟨hab, hao, rfl⟩ := HV6.out.out.has.addr (by omega)
                      have cx := HV6.out.out.has.cell hab hao rfl i x hx
                      have hxb := HFIT.out.item x (List.mem_of_getElem? hx)
                      rw [HV6.out.mkt.res.len] at hxb
                      obtain ⟨hxb1, hxb2⟩ := hxb
                      have hcn := cnd_ahd (m := m) (s := ss) (r := r) (k := k) hx
                      have HCN := Lib.hid hcn; clear hcn hx
                      have i2 : (i : Int) < (hn : Int) := by omega
                      have q0 := HV6.out.v1.cell (k := 0) rfl
                      have q1 := HV6.out.v1.cell (k := 1) rfl
                      have q2 := HV6.out.v1.cell (k := 2) rfl
                      have r1 := HV6.out.v2.cell (k := 1) rfl
                      obtain ⟨gI, hgI⟩ : ∃ n, n = gk - 1 := ⟨_, rfl⟩
                      have HGI := Lib.hid hgI; clear hgI
                      by_cases hx1 : x = -1
                      · subst hx1
                        have e6 : decide (0 ≤ (-1 : Int)) = false := by simp
                        have hah : ahd ss (-1) = 0 := by unfold ahd; simp
                        have HAH := Lib.hid hah; clear hah
                        by_cases hA : (0 : Int) = (r : Int)
                        · have e5 : ((0 : Int) == (r : Int)) = true := by rw [hA]; exact beq_self_eq_true _
                          have hcn : cnd (woodOf m o) ss r k i = wellB m o i k := by rw [HCN.out, HAH.out, decide_eq_true hA, Bool.true_and]
                          have HCN2 := Lib.hid hcn; clear hcn hA
                          go_wp2_with fail
                          refine (well16_any ra ba oa (some ⟨hab, hao, none⟩) pa j rc hn bc on oc hn hc j pc m o w6 HV6.out.mkt HV6.out.out HFIT.out i hih k hlk).mono ?_
                          rintro e w7 ⟨rfl, hb7⟩
                          have cn1w := cell_step hb7 cn1'
                          have cn2w := cell_step hb7 cn2'
                          have hg26 := (World.ownsRow.lt HP.out g2 rfl).2
                          have cf1w : w7.frozen? ⟨g2, k * 2, none⟩ = false := (hb7.frozen (p := ⟨g2, k * 2, none⟩) hg26).trans cf1
                          have cf2w : w7.frozen? ⟨g2, k * 2 + 1, none⟩ = false := (hb7.frozen (p := ⟨g2, k * 2 + 1, none⟩) hg26).trans cf2
                          have HP7 := Lib.hid (HP.out.step hb7)
                          have HB7 := Lib.hid (HB6.out.trans (hb7.mono HB6.out.size))
                          clear hb7 cn1' cn2' cf1 cf2 r0 r1 q0 q1 q2 cx HV6 HO6 hg26
                          obtain ⟨wb, hwb⟩ : ∃ wb, wb = wellB m o i k := ⟨_, rfl⟩
                          rw [← hwb] at HCN2 ⊢
                          clear hwb
                          cases wb with
                          | false =>
                            go_wp2_with fail
                            go_roundg gI
                            case measure => have := HI.out; have := HGI.out; omega
                            case rel => exact ⟨i + 1, l, by have := HI.out; have := HGI.out; omega, by go_num, HP7.out, HB7.out, .inl ⟨find_next HF4.out HCN2.out, HL4.out⟩⟩
                          | true =>
                            have hg2w := hg2.1
                            go_wp2_with fail
                            go_roundg gI
                            case measure => have := HI.out; have := HGI.out; omega
                            case rel =>
                              have hput := (show OwnW w7 w3.heap.size (.slice (some ⟨g2, 0, none⟩) l.length c2) l by rw [HLL.out]; exact HP7.out).put (k := k) (by rw [HLL.out]; exact hlk) (i : Int) ((r : Int) + 1)
                              rw [HLL.out] at hput
                              exact ⟨i + 1, _, by have := HI.out; have := HGI.out; omega, by go_num, hput, (HB7.out.setCell (p := ⟨g2, k * 2, none⟩) hg2w _).setCell (p := ⟨g2, k * 2 + 1, none⟩) hg2w _, .inr ⟨i, by rw [seek_cnd]; exact find_range HF4.out HCN2.out (by rw [show (woodOf m o).M = hn from HHL.out]; exact hih), by rw [HL4.out]⟩⟩
                        · have e5 : ((0 : Int) == (r : Int)) = false := by simpa using hA
                          have hcn : cnd (woodOf m o) ss r k i = false := by rw [HCN.out, HAH.out, decide_eq_false hA, Bool.false_and]
                          have HCN2 := Lib.hid hcn; clear hcn hA
                          go_wp2_with fail
                          go_roundg gI
                          case measure => have := HI.out; have := HGI.out; omega
                          case rel => exact ⟨i + 1, l, by have := HI.out; have := HGI.out; omega, by go_num, HP.out, HB6.out, .inl ⟨find_next HF4.out HCN2.out, HL4.out⟩⟩
                      · obtain ⟨q, rfl⟩ := Int.eq_ofNat_of_zero_le (show 0 ≤ x by omega)
                        have hqj : q < j := by omega
                        have e6 : decide (0 ≤ (q : Int)) = true := by simp
                        obtain ⟨-, cq, -, -⟩ := HO6.out.cell (refL_get (s := lv (woodOf m o) r) hqj)
                        have hah : ahd ss (q : Int) = (refV (lv (woodOf m o) r q)).2 := by unfold ahd; rw [if_neg hx1, Int.toNat_natCast, HSS.out]
                        obtain ⟨A, hA0⟩ : ∃ A, A = (refV (lv (woodOf m o) r q)).2 := ⟨_, rfl⟩
                        rw [← hA0] at cq hah
                        clear hA0 hx1
                        have HAH := Lib.hid hah; clear hah
                        have i3 : (q : Int) < (j : Int) := by omega
                        by_cases hA : A = (r : Int)
                        · have e5 : (A == (r : Int)) = true := by rw [hA]; exact beq_self_eq_true _
                          have hcn : cnd (woodOf m o) ss r k i = wellB m o i k := by rw [HCN.out, HAH.out, decide_eq_true hA, Bool.true_and]
                          have HCN2 := Lib.hid hcn; clear hcn hA
                          go_wp2_with fail
                          refine (well16_any ra ba oa (some ⟨hab, hao, none⟩) pa j rc hn bc on oc hn hc j pc m o w6 HV6.out.mkt HV6.out.out HFIT.out i hih k hlk).mono ?_
                          rintro e w7 ⟨rfl, hb7⟩
                          have cn1w := cell_step hb7 cn1'
                          have cn2w := cell_step hb7 cn2'
                          have hg26 := (World.ownsRow.lt HP.out g2 rfl).2
                          have cf1w : w7.frozen? ⟨g2, k * 2, none⟩ = false := (hb7.frozen (p := ⟨g2, k * 2, none⟩) hg26).trans cf1
                          have cf2w : w7.frozen? ⟨g2, k * 2 + 1, none⟩ = false := (hb7.frozen (p := ⟨g2, k * 2 + 1, none⟩) hg26).trans cf2
                          have HP7 := Lib.hid (HP.out.step hb7)
                          have HB7 := Lib.hid (HB6.out.trans (hb7.mono HB6.out.size))
                          clear hb7 cn1' cn2' cf1 cf2 r0 r1 q0 q1 q2 cx HV6 HO6 hg26 cq
                          obtain ⟨wb, hwb⟩ : ∃ wb, wb = wellB m o i k := ⟨_, rfl⟩
                          rw [← hwb] at HCN2 ⊢
                          clear hwb
                          cases wb with
                          | false =>
                            go_wp2_with fail
                            go_roundg gI
                            case measure => have := HI.out; have := HGI.out; omega
                            case rel => exact ⟨i + 1, l, by have := HI.out; have := HGI.out; omega, by go_num, HP7.out, HB7.out, .inl ⟨find_next HF4.out HCN2.out, HL4.out⟩⟩
                          | true =>
                            have hg2w := hg2.1
                            go_wp2_with fail
                            go_roundg gI
                            case measure => have := HI.out; have := HGI.out; omega
                            case rel =>
                              have hput := (show OwnW w7 w3.heap.size (.slice (some ⟨g2, 0, none⟩) l.length c2) l by rw [HLL.out]; exact HP7.out).put (k := k) (by rw [HLL.out]; exact hlk) (i : Int) ((r : Int) + 1)
                              rw [HLL.out] at hput
                              exact ⟨i + 1, _, by have := HI.out; have := HGI.out; omega, by go_num, hput, (HB7.out.setCell (p := ⟨g2, k * 2, none⟩) hg2w _).setCell (p := ⟨g2, k * 2 + 1, none⟩) hg2w _, .inr ⟨i, by rw [seek_cnd]; exact find_range HF4.out HCN2.out (by rw [show (woodOf m o).M = hn from HHL.out]; exact hih), by rw [HL4.out]⟩⟩
                        · have e5 : (A == (r : Int)) = false := by simpa using hA
                          have hcn : cnd (woodOf m o) ss r k i = false := by rw [HCN.out, HAH.out, decide_eq_false hA, Bool.false_and]
                          have HCN2 := Lib.hid hcn; clear hcn hA
                          go_wp2_with fail
                          go_roundg gI
                          case measure => have := HI.out; have := HGI.out; omega
                          case rel => exact ⟨i + 1, l, by have := HI.out; have := HGI.out; omega, by go_num, HP.out, HB6.out, .inl ⟨find_next HF4.out HCN2.out, HL4.out⟩⟩
                    · obtain rfl : i = hn := by have := HI.out; omega
                      have hsk : seek (woodOf m o) ss r k = none := by
                        rw [seek_cnd, show (woodOf m o).M = i from HHL.out]; exact HF4.out
                      have hno := At4.nobody (N := j) HSN.out hsk
                      have HNO := Lib.hid hno; clear hno hsk
                      go_wp2_with fail
                      go_roundg gK
                      case measure => have := HK.out; have := HGK.out; omega
                      case rel => exact ⟨k + 1, by have := HK.out; have := HGK.out; omega, by go_num, by rw [← HSS.out, ← HNO.out, ← HL4.out]; exact HP.out, HB6.out⟩
                  · have hlk4 : l[k]? = some ((i0 : Int), (r : Int) + 1) := by rw [hl4, List.getElem?_set, if_pos rfl, partL_length, if_pos hlk]
                    obtain ⟨-, cn2, -, -⟩ := HP.out.cell hlk4
                    have cn2' : w6.cell? ⟨g2, k * 2 + 1, none⟩ = some (.int .i64 ((r : Int) + 1)) := cn2
                    have hdn := At4.done (N := j) HSN.out hlk hf4
                    rw [← hl4] at hdn
                    have HDN := Lib.hid hdn; clear hdn hl4 hf4 hlk4 cn2
                    have r0 := HV6.out.v2.cell (k := 0) rfl
                    have e3 : decide ((r : Int) + 1 < 0) = false := decide_eq_false (by omega)
                    by_cases hih : i < hn
                    · have i2 : (i : Int) < (hn : Int) := by omega
                      go_wp2_with fail
                      go_roundg gK
                      case measure => have := HK.out; have := HGK.out; omega
                      case rel => exact ⟨k + 1, by have := HK.out; have := HGK.out; omega, by go_num, by rw [← HSS.out, ← HDN.out]; exact HP.out, HB6.out⟩
                    · obtain rfl : i = hn := by have := HI.out; omega
                      go_wp2_with fail
                      go_roundg gK
                      case measure => have := HK.out; have := HGK.out; omega
                      case rel => exact ⟨k + 1, by have := HK.out; have := HGK.out; omega, by go_num, by rw [← HSS.out, ← HDN.out]; exact HP.out, HB6.out⟩
            · obtain rfl : k = j := by have := HK.out; omega
              have hP2 := HP.out
              rw [partL_all] at hP2
              have HP2 := Lib.hid hP2; clear hP2
              go_wp2_with fail
              go_roundg gR
              case measure => have := HR.out; have := HGR.out; omega
              case rel =>
                refine ⟨r + 1, g2, c2, by have := HR.out; have := HGR.out; omega, by go_num, rfl, HP2.out.lower hbs, ?_⟩
                exact HB.out.trans (HB5.out.mono hbs)
        · obtain rfl : r = j := by have := HR.out; omega
          have e1 : decide ((r : Int) + 1 ≤ (r : Int)) = false := decide_eq_false (by omega)
          go_wp2_with fail
          clear e1
          go_loopg [13] r (fun g' s13 wr => ∃ k : Nat, k + g' = r ∧ s13 = .int .i64 k ∧ (∀ q, q < k → ∃ x, lv (woodOf m o) r q = some x) ∧ w3 = wr)
          case atStart => exact ⟨0, by omega, rfl, fun q h => by omega, rfl⟩
          case round =>
            obtain ⟨k, hk, rfl, hall, rfl⟩ := hrel
            have HK := Lib.hid hk; clear hk
            have HALL := Lib.hid hall; clear hall
            by_cases hlk : k < r
            · obtain ⟨-, cr2, -, -⟩ := HO.out.cell (refL_get (s := lv (woodOf m o) r) hlk)
              have i1 : (k : Int) < (r : Int) := by omega
              cases hs : lv (woodOf m o) r k with
              | none =>
                rw [hs] at cr2
                have cr2' : w3.cell? ⟨g, k * 2 + 1, none⟩ = some (.int .i64 (-1)) := cr2
                clear cr2
                have hab : allB (woodOf m o) = false := by
                  unfold allB
                  rw [List.all_eq_false]
                  refine ⟨k, List.mem_range.2 (by show k < o.prices.length; rw [HPL.out]; exact hlk), ?_⟩
                  rw [show (woodOf m o).N = r from HPL.out, hs]; simp
                have HAB := Lib.hid hab; clear hab hs
                go_wp2_with fail
                go_ret2
                exact ⟨HV3.out.below, .inr ⟨HAB.out, rfl⟩⟩
              | some x =>
                rw [hs] at cr2
                have cr2' : w3.cell? ⟨g, k * 2 + 1, none⟩ = some (.int .i64 (x.2 : Int)) := cr2
                obtain ⟨xr, hxr⟩ : ∃ xr, xr = x.2 := ⟨_, rfl⟩
                rw [← hxr] at cr2'
                clear hxr cr2
                have e2 : decide ((xr : Int) < 0) = false := by simp
                have HSN := Lib.hid hs; clear hs
                go_wp2_with fail
                go_roundg (gk - 1)
                case measure => have := HK.out; omega
                case rel =>
                  refine ⟨k + 1, by have := HK.out; omega, by go_num, fun q hq => ?_, rfl⟩
                  by_cases e : q = k
                  · subst e; exact ⟨_, HSN.out⟩
                  · exact HALL.out q (by omega)
            · obtain rfl : k = r := by have := HK.out; omega
              have hab : allB (woodOf m o) = true := by
                unfold allB
                rw [List.all_eq_true]
                intro q hq
                have hq' : q < k := by have := List.mem_range.1 hq; rw [show (woodOf m o).N = k from HPL.out] at this; exact this
                obtain ⟨x, hx⟩ := HALL.out q hq'
                rw [show (woodOf m o).N = k from HPL.out, hx]; rfl
              have hwy := (show OwnW w3 w2.heap.size (.slice (some ⟨g, 0, none⟩) (refL k (lv (woodOf m o) k)).length c) (refL k (lv (woodOf m o) k)) by rw [refL_length]; exact HO.out).whys (by rw [refL_length]; omega) (refL_bd (fun q x hx => by have := lv_bd (W := woodOf m o) (by show o.has.length ≤ 8; rw [HHL.out]; exact hm8) (by omega) q x hx; omega))
              rw [refL_length, refL_out HALL.out] at hwy
              have HAB := Lib.hid hab; clear hab
              have HWY := Lib.hid hwy; clear hwy
              go_wp2_with fail
              go_ret2
              exact ⟨HV3.out.below, .inl ⟨HAB.out, _, _, _, rfl, by rw [HPL.out]; exact HWY.out⟩⟩
end Go.Proofs.YtkddkkcfpnndlaaDoor
