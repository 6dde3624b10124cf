/- Walks: the law FirstsTimes. -/
import Derived.Test.YtbnjeegicbffeaaFa1
import Derived.Test.YtbnjeegicbffeaaFp3
import Derived.Test.YtbnjeegicbffeaaOwn2
namespace Go.Proofs.Ytbnjeegicbffeaa
open Go.RowKit Sale

set_option maxRecDepth 100000 in
set_option maxHeartbeats 1000000 in
theorem firstsTimes_any (ga oa : Option Addr) (gn gc o_n oc : Nat) (gains : List (List Int)) (items : Int) (order : List Int) (by' : Nat) (w : World) (hg : Rows w ga gn gc gains) (ho : Ints w oa o_n oc order) (hsz : o_n * 8 ≤ reachBytes) (hby : by' < 65536) :
    Calls Try.prog 9 #[.agg #[.slice ga gn gc, .int .i64 items], .slice oa o_n oc, .int .u16 (by' : Int)] w fun e w' => e = .returned (.bool true) ∧ Below w.heap.size w w' := by
  have HG := Lib.hid hg; clear hg
  have HO := Lib.hid ho; clear ho
  have HB0 := Lib.hid (gw_start w ga gn gc items)
  have HF := Lib.hid (First_all ga oa gn gc o_n oc gains items order (gw w ga gn gc items) (HG.out.below (gw_kept HB0.out).2.2.2 (Nat.le_refl _)) (HO.out.below (gw_kept HB0.out).2.2.2 (Nat.le_refl _)) hsz)
  have HL := Lib.hid HG.out.len
  go_enter Try.func9, Try.ntmps9
  rcases HF.out with ⟨hok, hc⟩ | ⟨n, on, rfl, rfl, h1, h2, hc⟩
  · have HC := Lib.hid hc; clear hc
    clear HF hok
    go_wp2_with fail
    refine HC.out.mono ?_
    rintro e w1 ⟨a1, n1, c1, rfl, hi1, hb1⟩
    have HB1 := Lib.hid (gw_below HB0.out hb1); clear hb1
    clear HC hi1
    obtain ⟨hc0, hc1, hs1, _⟩ := gw_kept HB1.out
    go_wp2_with fail
    refine (alive_any w1).mono ?_
    rintro e w3 ⟨rfl, hb⟩
    have HB3 := Lib.hid (gw_below HB1.out hb); clear hb
    go_wp2_with fail
    go_ret
    exact ⟨rfl, (gw_kept HB3.out).2.2.2⟩
  · have HC := Lib.hid hc; clear hc
    have H1 := Lib.hid h1; clear h1
    have H2 := Lib.hid h2; clear h2
    obtain ⟨p1, p2, p3, p4, p5⟩ := wcheck_parts H1.out
    have P4 := Lib.hid p4; clear p4
    have P5 := Lib.hid p5; clear p5
    clear HF
    go_wp2_with fail
    refine HC.out.mono ?_
    rintro e w1 ⟨a1, n1, c1, rfl, hi1, hb1⟩
    have HB1 := Lib.hid (gw_below HB0.out hb1); clear hb1
    have HI1 := Lib.hid hi1; clear hi1
    clear HC
    obtain ⟨hc0, hc1, hs1, _⟩ := gw_kept HB1.out
    have hord := isOrd_parts H2.out
    have HP := Lib.hid hord; clear hord
    have HBW1 := Lib.hid (gw_kept HB1.out).2.2.2
    have hgb := HG.out.big
    have HR := Lib.hid (Below.refl w1.heap.size w1)
    have HC0 := Lib.hid (And.intro hc0 hc1)
    clear hc0 hc1 hs1
    have hs0 : w.heap.size < w1.heap.size := (gw_kept HB1.out).2.2.1
    have c0 := HC0.out.1
    have c1' := HC0.out.2
    have hgn8 : gn ≤ 8 := by have := HL.out; omega
    have hcv : IntKind.i64.wrap (1 + (by' : Int)) = 1 + (by' : Int) := IntWalk.i64_in _ (by omega)
    go_wp2_with fail
    go_loopg [9, 10] gn (fun g s9 s10 wr => ∃ k : Nat, k + g = gn ∧ s10 = .int .i64 k ∧ OwnRows wr w1.heap.size s9 (timesG (1 + by') (gains.take k)) ∧ Below w1.heap.size w1 wr)
    case atStart => exact ⟨0, by omega, rfl, OwnRows.nil _ _, HR.out⟩
    case round =>
      obtain ⟨k, hk, rfl, hO, hB⟩ := hrel
      have hbc0 := (bcell hB).1 w.heap.size 0 hs0
      rw [c0] at hbc0
      have HBR := Lib.hid hB; clear hB
      have HOR := Lib.hid hO; clear hO
      by_cases hlt : k < gn
      · have HK := Lib.hid hk; clear hk
        go_wp2_with fail
        obtain ⟨wo, rfl⟩ : ∃ wo : World, wo = wr := ⟨_, rfl⟩
        obtain ⟨go, rfl⟩ : ∃ go : Nat, go = gk := ⟨_, rfl⟩
        obtain ⟨l, hl⟩ := HG.out.get hlt
        have hln := P4.out l (List.mem_of_getElem? hl)
        have hlb := P5.out l (List.mem_of_getElem? hl)
        have HL2 := Lib.hid hl; clear hl
        have HLN := Lib.hid hln; clear hln
        have HLB := Lib.hid hlb; clear hlb
        have hml : (timesG (1 + by') (gains.take k)).length = k := by simp [timesG]; have := HG.out.len; omega
        go_loopg [11, 12] n (fun g s11 s12 wr => ∃ j : Nat, j + g = n ∧ s12 = .int .i64 j ∧ Own wr wo.heap.size s11 ((l.take j).map fun x => (1 + (by' : Int)) * x) ∧ Below wo.heap.size wo wr)
        case atStart => exact ⟨0, by omega, rfl, Own.nil _ _, Below.refl _ _⟩
        case round =>
          obtain ⟨j, hj, rfl, hO, hB⟩ := hrel
          obtain ⟨bg, og, rfl⟩ := HG.out.addr (by omega)
          have hsz0 : w.heap.size < wo.heap.size := by have := HBR.out.size; omega
          have hBw : Below w.heap.size w wr := HBW1.out.trans ((HBR.out.trans (hB.mono HBR.out.size)).mono HBW1.out.size)
          obtain ⟨la, ln, lc, hcl, hli2⟩ := (HG.out.below hBw (Nat.le_refl _)).cell bg og rfl k l HL2.out
          have hln : ln = n := by have := HLN.out; have := hli2.len; omega
          subst hln
          have hbc0 := (bcell hB).1 w.heap.size 0 hsz0
          have hbo := (bcell HBR.out).1 w.heap.size 0 hs0
          rw [hbo, c0] at hbc0
          clear hbo
          have HBW := Lib.hid hBw; clear hBw
          have HJ := Lib.hid hj; clear hj
          obtain ⟨zs, hzs⟩ : ∃ zs, zs = (l.take j).map fun x => (1 + (by' : Int)) * x := ⟨_, rfl⟩
          rw [← hzs] at hO
          have hjl : j ≤ ln → zs.length = j := fun h => by rw [hzs]; simp; have := HLN.out; omega
          have HZ := Lib.hid hzs; clear hzs
          have HO2 := Lib.hid hO; clear hO
          have HB2 := Lib.hid hB; clear hB
          have i0 : (k : Int) < (gn : Int) := by omega
          by_cases hlj : j < ln
          · obtain ⟨x, hx, _⟩ := hli2.get hlj
            obtain ⟨lb, lo, rfl⟩ := hli2.addr (by omega)
            have hcx := hli2.cell lb lo rfl j x hx
            have hxb := HLB.out x (List.mem_of_getElem? hx)
            have HX := Lib.hid hx; clear hx
            have HLI := Lib.hid hli2; clear hli2
            have i1 : (j : Int) < (ln : Int) := by omega
            have hmul : IntKind.i64.wrap ((1 + (by' : Int)) * x) = (1 + (by' : Int)) * x := by
              obtain ⟨h1, h2⟩ := hxb
              refine IntWalk.i64_in _ ⟨?_, ?_⟩
              · have : (1 + (by' : Int)) * (-1000000) ≤ (1 + (by' : Int)) * x := Int.mul_le_mul_of_nonneg_left (by omega) (by omega)
                omega
              · have : (1 + (by' : Int)) * x ≤ (1 + (by' : Int)) * 1000000 := Int.mul_le_mul_of_nonneg_left (by omega) (by omega)
                omega
            obtain ⟨y, hy⟩ : ∃ y, y = (1 + (by' : Int)) * x := ⟨_, rfl⟩
            rw [← hy] at hmul
            have HJL := Lib.hid (hjl (by omega)); clear hjl
            rw [hy] at hmul
            have HY := Lib.hid hy; clear hy
            go_wp2_with (at_builtin; refine app1 _ rfl _ _ rfl wo.heap.size _ _ rfl (HO2.out.alloc _) wr.heap.size 0 1 ((1 + (by' : Int)) * x) rfl (by simp [go_sem]) (by rw [HJL.out]; omega) (by have := HB2.out.size; simp; omega) ?_)
            intro g' cap' w' hown' hgr' hb'
            rw [HJL.out] at hown' ⊢
            have HO3 := Lib.hid hown'; clear hown'
            have HB3 := Lib.hid hb'; clear hb' hgr'
            go_wp2_with fail
            go_roundg (gk - 1)
            case measure => have := HJ.out; omega
            case rel =>
              refine ⟨j + 1, by have := HJ.out; omega, by go_num, ?_, (HB2.out.alloc HB2.out.size _).trans HB3.out⟩
              rw [List.take_add_one, HX.out, List.map_append, ← HZ.out]
              exact HO3.out
          · obtain rfl : j = ln := by have := HJ.out; omega
            have hjl2 := hjl (Nat.le_refl _)
            clear hjl
            have hlt2 : l.take j = l := List.take_of_length_le (by have := HLN.out; omega)
            have hzl : zs = l.map fun x => (1 + (by' : Int)) * x := by rw [HZ.out, hlt2]
            obtain ⟨ra, rc, rfl, hri⟩ := HO2.out.ints (by rw [hjl2]; omega) (fun z hz => by
              rw [hzl] at hz
              obtain ⟨x, hx, rfl⟩ := List.mem_map.1 hz
              obtain ⟨h1, h2⟩ := HLB.out x hx
              constructor
              · have : (1 + (by' : Int)) * (-1000000) ≤ (1 + (by' : Int)) * x := Int.mul_le_mul_of_nonneg_left (by omega) (by omega)
                omega
              · have : (1 + (by' : Int)) * x ≤ (1 + (by' : Int)) * 1000000 := Int.mul_le_mul_of_nonneg_left (by omega) (by omega)
                omega)
            have hbase := HO2.out.base
            rw [hjl2] at hri hbase ⊢
            have HBASE := Lib.hid hbase; clear hbase
            have HRI := Lib.hid hri; clear hri
            have HJL := Lib.hid hjl2; clear hjl2 hlt2
            have HZL := Lib.hid hzl; clear hzl
            have HML := Lib.hid hml; clear hml
            have HLI := Lib.hid hli2; clear hli2
            have hal : Below wo.heap.size wo (wr.alloc (.cells #[.slice ra j rc] 22)) := HB2.out.alloc HB2.out.size _
            have HAL := Lib.hid hal; clear hal
            go_wp2_with (at_builtin; refine appRow _ rfl _ _ rfl w1.heap.size _ _ rfl (HOR.out.below HAL.out (Nat.le_refl _)) wr.heap.size 0 1 ra j rc _ rfl (by simp [go_sem]) (HRI.out.below ((Below.refl _ _).alloc (Nat.le_refl _) _) (Nat.le_refl _)) ?c1 (by rw [HML.out]; omega) (by have := HBR.out.size; have := HB2.out.size; simp; omega) ?_)
            case c1 =>
              intro _ b o e hob
              have h1 := (HOR.out.lt b hob).2
              have h2 := HBASE.out b (by rw [e]; rfl)
              omega
            intro g' cap' w' hown' hb'
            rw [HML.out]
            have HO3 := Lib.hid hown'; clear hown'
            have HB3 := Lib.hid hb'; clear hb'
            go_wp2_with fail
            go_roundg (go - 1)
            case measure => have := HK.out; omega
            case rel =>
              refine ⟨k + 1, by have := HK.out; omega, by go_num, ?_, (HBR.out.trans (HAL.out.mono HBR.out.size)).trans HB3.out⟩
              have := HO3.out
              rw [HML.out] at this
              rw [List.take_add_one, HL2.out]
              simpa [timesG, HZL.out] using this
      · obtain rfl : k = gn := by omega
        have htk : gains.take k = gains := List.take_of_length_le (by have := HG.out.len; omega)
        rw [htk] at HOR
        clear htk
        obtain ⟨ga2, gc2, rfl, hrg⟩ := HOR.out.rows (by simp [timesG]; omega)
        have hml : (timesG (1 + by') gains).length = k := by simp [timesG]; exact HG.out.len
        rw [hml] at hrg ⊢
        have hc1 := (bcell HBR.out).1 w.heap.size 1 hs0
        rw [c1'] at hc1
        have hBw : Below w.heap.size w wr := HBW1.out.trans (HBR.out.mono HBW1.out.size)
        have hF2 := First_all ga2 oa k gc2 o_n oc (timesG (1 + by') gains) n (on.map fun k : Nat => (k : Int)) wr hrg (HO.out.below hBw (Nat.le_refl _)) hsz
        have HBW := Lib.hid hBw; clear hBw
        have HF2 := Lib.hid hF2; clear hF2
        have HML := Lib.hid hml; clear hml
        clear hrg
        rcases HF2.out with ⟨hok2, hc2⟩ | ⟨n2, on2, hn2, hon2, _, _, hc2⟩
        · have HC2 := Lib.hid hc2; clear hc2 HF2
          clear hok2
          go_wp2_with fail
          refine HC2.out.mono ?_
          rintro e w4 ⟨a4, n4, c4, rfl, hi4, hb4⟩
          clear HC2
          have HB4 := Lib.hid (HBW.out.trans (hb4.mono HBW.out.size)); clear hb4 hi4
          go_wp2_with fail
          refine (alive_any w4).mono ?_
          rintro e w5 ⟨rfl, hb⟩
          go_wp2_with fail
          go_ret
          exact ⟨rfl, HB4.out.trans (hb.mono HB4.out.size)⟩
        · obtain rfl : n = n2 := by omega
          have hon : on = on2 := by
            have := congrArg (List.map Int.toNat) hon2
            simpa [List.map_map, Function.comp_def] using this
          subst hon
          rw [firstOf_times (by omega) P4.out HP.out] at hc2
          have HC2 := Lib.hid hc2; clear hc2 HF2 hon2
          go_wp2_with fail
          refine HC2.out.mono ?_
          rintro e w4 ⟨a4, n4, c4, rfl, hi4, hb4⟩
          clear HC2
          have HI4 := Lib.hid hi4; clear hi4
          have HB4 := Lib.hid (HBW.out.trans (hb4.mono HBW.out.size))
          have HI1' := Lib.hid (HI1.out.below (HBR.out.trans (hb4.mono HBR.out.size)) (Nat.le_refl _)); clear hb4
          go_wp2_with fail
          refine (alive_any w4).mono ?_
          rintro e w5 ⟨rfl, hb⟩
          have HB5 := Lib.hid hb; clear hb
          go_wp2_with fail
          refine (same_any a4 a1 n4 c4 n1 c1 _ _ w5 (HI4.out.below HB5.out (Nat.le_refl _)) (HI1'.out.below HB5.out (Nat.le_refl _))).mono ?_
          rintro e w6 ⟨rfl, hb⟩
          have HB6 := Lib.hid hb; clear hb
          have hdec : decide (firstOf gains n on = firstOf gains n on) = true := by simp
          go_wp2_with fail
          go_ret
          exact ⟨rfl, (HB4.out.trans (HB5.out.mono HB4.out.size)).trans (HB6.out.mono (by have := HB4.out.size; have := HB5.out.size; omega))⟩
end Go.Proofs.Ytbnjeegicbffeaa
