/- Walks: the law FirstsTaken. -/
import Derived.Test.YtbnjeegicbffeaaFa1
import Derived.Test.YtbnjeegicbffeaaFp3
namespace Go.Proofs.Ytbnjeegicbffeaa
open Go.RowKit Sale

set_option maxRecDepth 100000 in
set_option maxHeartbeats 1000000 in
theorem firstsTaken_any (ga oa : Option Addr) (gn gc o_n oc : Nat) (gains : List (List Int)) (items : Int) (order : List Int) (w : World) (hg : Rows w ga gn gc gains) (ho : Ints w oa o_n oc order) (hsz : o_n * 8 ≤ reachBytes) :
    Calls Try.prog 6 #[.agg #[.slice ga gn gc, .int .i64 items], .slice oa o_n oc] w fun e w' => e = .returned (.bool true) ∧ Below w.heap.size w w' := by
  have HG := Lib.hid hg; clear hg
  have HO := Lib.hid ho; clear ho
  have HB0 := Lib.hid (gw_start w ga gn gc items)
  have HF := Lib.hid (First_all ga oa gn gc o_n oc gains items order (gw w ga gn gc items) (HG.out.below (gw_kept HB0.out).2.2.2 (Nat.le_refl _)) (HO.out.below (gw_kept HB0.out).2.2.2 (Nat.le_refl _)) hsz)
  have HL := Lib.hid HG.out.len
  go_enter Try.func6, Try.ntmps6
  rcases HF.out with ⟨hok, hc⟩ | ⟨n, on, rfl, rfl, h1, h2, hc⟩
  · have HC := Lib.hid hc; clear hc
    clear HF hok
    go_wp2_with fail
    refine HC.out.mono ?_
    rintro e w1 ⟨a1, n1, c1, rfl, hi1, hb1⟩
    have HB1 := Lib.hid (gw_below HB0.out hb1); clear hb1
    clear HC hi1
    obtain ⟨hc0, hc1, hs1, _⟩ := gw_kept HB1.out
    go_wp2_with fail
    refine (alive_any w1).mono ?_
    rintro e w3 ⟨rfl, hb⟩
    have HB3 := Lib.hid (gw_below HB1.out hb); clear hb
    go_wp2_with fail
    go_ret
    exact ⟨rfl, (gw_kept HB3.out).2.2.2⟩
  · have HC := Lib.hid hc; clear hc
    have H1 := Lib.hid h1; clear h1
    have H2 := Lib.hid h2; clear h2
    obtain ⟨p1, p2, p3, p4, p5⟩ := wcheck_parts H1.out
    have P4 := Lib.hid p4; clear p4
    have P5 := Lib.hid p5; clear p5
    clear HF
    go_wp2_with fail
    refine HC.out.mono ?_
    rintro e w1 ⟨a1, n1, c1, rfl, hi1, hb1⟩
    have HB1 := Lib.hid (gw_below HB0.out hb1); clear hb1
    have HI1 := Lib.hid hi1; clear hi1
    clear HC
    have hn1 : n1 = gn := by rw [← HI1.out.len, firstOf_length, HL.out]
    subst hn1
    obtain ⟨hc0, hc1, hs1, _⟩ := gw_kept HB1.out
    have hord := isOrd_parts H2.out
    have HP := Lib.hid hord; clear hord
    have HBW1 := Lib.hid (gw_kept HB1.out).2.2.2
    have hgb := HG.out.big
    have hib := HI1.out.big
    have HR := Lib.hid (Below.refl w1.heap.size w1)
    have HC0 := Lib.hid (And.intro hc0 hc1)
    clear hc0 hc1 hs1
    have hn8 : n ≤ 8 := by omega
    have hs0 : w.heap.size < w1.heap.size := (gw_kept HB1.out).2.2.1
    have c0 := HC0.out.1
    have c1' := HC0.out.2
    go_wp2_with fail
    go_loopg [7] n (fun g s7 wr => ∃ k : Nat, k + g = n ∧ s7 = .int .i64 k ∧ Below w1.heap.size w1 wr)
    case atStart => exact ⟨0, by omega, rfl, HR.out⟩
    case round =>
      obtain ⟨k, hk, rfl, hB⟩ := hrel
      have hbc := (bcell hB).1 w.heap.size 1 hs0
      have hbc0 := (bcell hB).1 w.heap.size 0 hs0
      rw [c1'] at hbc
      rw [c0] at hbc0
      have HBR := Lib.hid hB; clear hB
      by_cases hlt : k < n
      · have HK := Lib.hid hk; clear hk
        go_wp2_with fail
        obtain ⟨wo, rfl⟩ : ∃ wo : World, wo = wr := ⟨_, rfl⟩
        obtain ⟨go, rfl⟩ : ∃ go : Nat, go = gk := ⟨_, rfl⟩
        go_loopg [8, 9] n1 (fun g s8 s9 wr => ∃ i : Nat, i + g = n1 ∧ s9 = .int .i64 i ∧ s8 = .bool (decide ((k : Int) ∈ (firstOf gains n on).take i)) ∧ wr = wo)
        case atStart => exact ⟨0, by omega, rfl, by simp, rfl⟩
        case round =>
          obtain ⟨i, hi, rfl, rfl, rfl⟩ := hrel
          have HI := Lib.hid hi; clear hi
          by_cases hli : i < n1
          · obtain ⟨x, hx, _⟩ := HI1.out.get hli
            obtain ⟨b, o, rfl⟩ := HI1.out.addr (by omega)
            have hcx := (HI1.out.below HBR.out (Nat.le_refl _)).cell b o rfl i x hx
            have HX := Lib.hid hx; clear hx
            obtain ⟨T, hT⟩ : ∃ T : Bool, T = decide ((k : Int) ∈ (firstOf gains n on).take i) := ⟨_, rfl⟩
            rw [← hT]
            have HT := Lib.hid hT; clear hT
            have hsnoc : decide ((k : Int) ∈ (firstOf gains n on).take (i + 1)) = (T || (x == (k : Int))) := by
              rw [HT.out, List.take_add_one, HX.out]
              rw [Bool.eq_iff_iff]
              simp only [List.mem_append, Option.toList_some, List.mem_singleton, decide_eq_true_eq, Bool.or_eq_true, beq_iff_eq]
              exact ⟨fun h => h.imp id Eq.symm, fun h => h.imp id Eq.symm⟩
            have HS := Lib.hid hsnoc; clear hsnoc
            cases T with
            | true =>
              go_wp2_with fail
              go_roundg (gk - 1)
              case measure => have := HI.out; omega
              case rel => exact ⟨i + 1, by have := HI.out; omega, by go_num, by rw [HS.out]; rfl, rfl⟩
            | false =>
              go_wp2_with fail
              go_roundg (gk - 1)
              case measure => have := HI.out; omega
              case rel => exact ⟨i + 1, by have := HI.out; omega, by go_num, by rw [HS.out]; simp, rfl⟩
          · obtain rfl : i = n1 := by have := HI.out; omega
            rw [show (firstOf gains n on).take i = firstOf gains n on from List.take_of_length_le (by rw [HI1.out.len]; exact Nat.le_refl _)]
            by_cases hfree : (k : Int) ∈ firstOf gains n on
            · have hd : decide ((k : Int) ∈ firstOf gains n on) = true := by simp [hfree]
              rw [hd]
              clear hd hfree
              go_wp2_with fail
              obtain ⟨w2, rfl⟩ : ∃ w2 : World, w2 = wr := ⟨_, rfl⟩
              go_loopg [10] 1 (fun g s10 wr => s10 = .int .i64 0 ∧ wr = w2)
              case atStart => exact ⟨rfl, rfl⟩
              case round =>
                obtain ⟨rfl, rfl⟩ := hrel
                by_cases h0 : 0 < i
                · have hd : decide (0 < i) = true := by simp [h0]
                  go_wp2_with fail
                  go_roundg (go - 1)
                  case measure => have := HK.out; omega
                  case rel => exact ⟨k + 1, by have := HK.out; omega, by go_num, HBR.out⟩
                · have hd : decide (0 < i) = false := by simp [h0]
                  go_wp2_with fail
                  go_roundg (go - 1)
                  case measure => have := HK.out; omega
                  case rel => exact ⟨k + 1, by have := HK.out; omega, by go_num, HBR.out⟩
            · have hd : decide ((k : Int) ∈ firstOf gains n on) = false := by simp [hfree]
              rw [hd]
              clear hd
              have HFR := Lib.hid hfree; clear hfree
              go_wp2_with fail
              obtain ⟨w2, rfl⟩ : ∃ w2 : World, w2 = wr := ⟨_, rfl⟩
              go_loopg [10] i (fun g s10 wr => ∃ j : Nat, j + g = i ∧ s10 = .int .i64 j ∧ Below w1.heap.size w1 wr)
              case atStart => exact ⟨0, by omega, rfl, HBR.out⟩
              case round =>
                obtain ⟨j, hj, rfl, hB⟩ := hrel
                have hbc := (bcell hB).1 w.heap.size 1 hs0
                have hbc0 := (bcell hB).1 w.heap.size 0 hs0
                rw [c1'] at hbc
                rw [c0] at hbc0
                have HBJ := Lib.hid hB; clear hB
                have HJ := Lib.hid hj; clear hj
                by_cases hlj : j < i
                · have hd : decide (j < i) = true := by simp [hlj]
                  obtain ⟨x, hx, _⟩ := HI1.out.get hlj
                  obtain ⟨b, o, rfl⟩ := HI1.out.addr (by omega)
                  have hcx := (HI1.out.below HBJ.out (Nat.le_refl _)).cell b o rfl j x hx
                  obtain ⟨l, hl⟩ := HG.out.get hlj
                  obtain ⟨bg, og, rfl⟩ := HG.out.addr (by omega)
                  obtain ⟨la, ln, lc, hcl, hli2⟩ := (HG.out.below (HBW1.out.trans (HBJ.out.mono HBW1.out.size)) (Nat.le_refl _)).cell bg og rfl j l hl
                  have hln : ln = n := by have := P4.out l (List.mem_of_getElem? hl); have := hli2.len; omega
                  subst hln
                  obtain ⟨v, hv, _⟩ := hli2.get hlt
                  obtain ⟨lb, lo, rfl⟩ := hli2.addr (by omega)
                  have hcv := hli2.cell lb lo rfl k v hv
                  have hgi := gi_at hl hv
                  have hjg : j < gains.length := by have := HL.out; omega
                  have i1 : (k : Int) < (ln : Int) := by omega
                  by_cases hx1 : x = -1
                  · subst hx1
                    have hneg := left_none (n := ln) HP.out hjg hlt HFR.out hx
                    rw [hgi] at hneg
                    have HX := Lib.hid hx; clear hx
                    have HL2 := Lib.hid hl; clear hl
                    have HV := Lib.hid hv; clear hv
                    have HGI := Lib.hid hgi; clear hgi
                    have HLI := Lib.hid hli2; clear hli2
                    go_wp2_with fail
                    go_quiet (fail)
                    go_wp2_with fail
                    go_roundg (gk - 1)
                    case measure => have := HJ.out; omega
                    case rel => exact ⟨j + 1, by have := HJ.out; omega, by go_num, below_drewN HBJ.out _⟩
                  · obtain ⟨hle, hx0, hxn⟩ := left_some (n := ln) HP.out hjg hlt HFR.out hx hx1
                    obtain ⟨y, rfl⟩ := Int.eq_ofNat_of_zero_le hx0
                    have hyn : y < ln := by omega
                    obtain ⟨v2, hv2, _⟩ := hli2.get hyn
                    have hcv2 := hli2.cell lb lo rfl y v2 hv2
                    rw [hgi, show ((y : Int)).toNat = y by simp, gi_at hl hv2] at hle
                    have e1 : ((y : Int) == -1) = false := by simp
                    have HX := Lib.hid hx; clear hx
                    have HL2 := Lib.hid hl; clear hl
                    have HV := Lib.hid hv; clear hv
                    have HV2 := Lib.hid hv2; clear hv2
                    have HGI := Lib.hid hgi; clear hgi
                    have HLI := Lib.hid hli2; clear hli2
                    have HX1 := Lib.hid hx1; clear hx1
                    have i2 : (y : Int) < (ln : Int) := by omega
                    have i3 : (j : Int) < (i : Int) := by omega
                    go_wp2_with fail
                    go_quiet (fail)
                    go_wp2_with fail
                    go_roundg (gk - 1)
                    case measure => have := HJ.out; omega
                    case rel => exact ⟨j + 1, by have := HJ.out; omega, by go_num, below_drewN HBJ.out _⟩
                · obtain rfl : j = i := by have := HJ.out; omega
                  have hd : decide (j < j) = false := by simp
                  go_wp2_with fail
                  go_roundg (go - 1)
                  case measure => have := HK.out; omega
                  case rel => exact ⟨k + 1, by have := HK.out; omega, by go_num, HBJ.out⟩
      · go_wp2_with fail
        refine (alive_any wr).mono ?_
        rintro e w4 ⟨rfl, hb⟩
        go_wp2_with fail
        go_ret
        exact ⟨rfl, (HBW1.out.trans (HBR.out.mono HBW1.out.size)).trans (hb.mono (by have := HBW1.out.size; have := HBR.out.size; omega))⟩
end Go.Proofs.Ytbnjeegicbffeaa
