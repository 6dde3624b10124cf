/- Walks: forests.Of. -/
import Derived.Test.YtbnjeegicbffeaaFo7
namespace Go.Proofs.Ytbnjeegicbffeaa
open Go.RowKit Sale Tree

theorem jump_ret {l : Nat} {J : Act → World → Prop} {Q : Exit → Act → World → Prop} {a : Act} {w : World} : Exit.jump l J Q .ret a w = Q .ret a w := rfl
set_option maxRecDepth 100000 in
set_option maxHeartbeats 4000000 in
theorem fof_any (ra ba oa ha pa : Option Addr) (rn rc bn bc on oc hn hc pn pc : Nat) (m : Mkt) (o : Outc) (w : World) (hm : MktAt w ra ba oa rn rc bn bc on oc m) (ho : OutAt w ha pa hn hc pn pc o) (hfb : fitsB m o = true) :
    Calls Try.prog 22 #[.agg #[.slice ra rn rc, .slice ba bn bc, .slice oa on oc], .agg #[.slice ha hn hc, .slice pa pn pc]] w (FofSays m o w) := by
  have HV0 := Lib.hid (VAt.new w hm ho)
  have hhl := ho.has.len
  have hpl := ho.prices.len
  have hfit := fitsB_ok hfb
  have HFB := Lib.hid hfb; clear hfb
  have HM := Lib.hid hm; clear hm
  have HO := Lib.hid ho; clear ho
  go_enter Try.func22, Try.ntmps22
  go_wp2_with fail
  refine wp_scope_once 0 (fun a' w' => ∃ r Bo Bm, AtNext w w.heap.size (w.heap.size + 1) (w.heap.size + 1 + 1) Bo Bm ra ba oa ha pa rn rc bn bc on oc hn hc pn pc m o r a' w') fofMu rfl ?first ?pass
  case pass => exact fun a' w' hJ => fof_pass ra ba oa ha pa rn rc bn bc on oc hn hc pn pc m o w HM.out HO.out hfit _ _ _ a' w' hJ
  case first =>
    intro hnext
    have HNEXT := Lib.hid hnext; clear hnext
    go_wp2_with fail
    refine (fits_any ra ba oa ha pa rn rc bn bc on oc hn hc pn pc m o _ HV0.out.mkt HV0.out.out).mono ?_
    rw [HFB.out]
    rintro e w1 ⟨rfl, hb⟩
    have HV1 := Lib.hid (HV0.out.step hb); clear hb HV0
    have c1 := HV1.out.v2.cell (k := 1) rfl
    have hn8 := hfit.mok.n8
    rw [HV1.out.mkt.res.len] at hn8
    have hrn : pn = rn := by rw [← HV1.out.mkt.res.len, ← hfit.plen, hpl]
    subst hrn
    have HFIT := Lib.hid hfit; clear hfit
    have hmk := mkWhys pn (by omega)
    have hmm := fun w => run_makeMap (P := Try.prog) 72 w
    obtain ⟨w2, hw2⟩ : ∃ w2, w2 = w1.alloc (.cells (pairVals (List.replicate pn (0, 0))).toArray 35) := ⟨_, rfl⟩
    have hM0 := MapI.new w2
    have hsz2 : w2.heap.size = w1.heap.size + 1 := by rw [hw2]; simp
    rw [hsz2, hw2] at hM0
    have HM0 := Lib.hid hM0; clear hM0 hw2 hsz2 w2
    go_wp2_with (refine insertI _ rfl _ _ _ rfl _ _ _ _ (-1) 0 rfl HM0.out (by omega) rfl rfl ⟨by omega, by omega⟩ ⟨by omega, by omega⟩ rfl ?_)
    intro w3 hM3 hg3
    have hb3 : Below w1.heap.size w1 w3 := (((Below.refl _ w1).alloc (Nat.le_refl _) (.cells (pairVals (List.replicate pn (0, 0))).toArray 35)).alloc (by simp) (.map #[] 0)).grown hg3 (by simp; omega) (fun k hk => by cases hk; omega)
    have hW3 : WRow w3 w1.heap.size (l0 pn 0) := by
      rw [l0_zero]
      exact WRow.grown (WRow.step (VRow.new w1 35 (pairVals (List.replicate pn (0, 0)))) ((Below.refl _ _).alloc (Nat.le_refl _) _)) hg3 (by simp)
    have HV3 := Lib.hid (HV1.out.step hb3)
    have hs1 := HV1.out.v3.lt
    have hs0' := HV1.out.v1.lt
    have HB3 := Lib.hid hb3; clear hb3
    have HW3 := Lib.hid hW3; clear hW3
    have hM3' : MapI w3 (w1.heap.size + 1) 1 (rkF (s0 (woodOf m o) 0)) 1 := by
      have e : rkF (s0 (woodOf m o) 0) = putI (fun _ => none) (-1) 0 := by
        funext y
        rw [s0_zero]
        unfold rkF putI
        by_cases h : y = -1
        · rw [if_pos h, if_pos h]
        · rw [if_neg h, if_neg h]; simp
      rw [e]; exact hM3
    have HM3 := Lib.hid hM3'; clear hM3 hM3' hg3 HM0 c1 hmk hmm
    go_wp2_with fail
    go_loopg [8, 38] pn (fun g' s8 s38 wr => ∃ k : Nat, k + g' = pn ∧ s38 = .int .i64 k ∧ s8 = .int .i64 (leftN pn (s0 (woodOf m o) k) : Nat) ∧ VAt w w.heap.size (w.heap.size + 1) (w.heap.size + 1 + 1) ra ba oa ha pa pn rc bn bc on oc hn hc pn pc m o wr ∧ WRow wr w1.heap.size (l0 pn k) ∧
      ∃ n cnt, n + leftN pn (s0 (woodOf m o) k) = pn + 1 ∧ MapI wr (w1.heap.size + 1) n (rkF (s0 (woodOf m o) k)) cnt)
    case atStart => exact ⟨0, by omega, rfl, by rw [s0_zero, leftN_none], HV3.out, HW3.out, 1, 1, by rw [s0_zero, leftN_none]; omega, HM3.out⟩
    case round =>
      obtain ⟨k, hk, rfl, rfl, hV, hW, n, cnt, hnl, hM⟩ := hrel
      have HKK := Lib.hid hk; clear hk
      by_cases hlt : k < pn
      · have hl0 := l0_get (n := pn) (k := k) hlt
        rw [if_neg (by omega)] at hl0
        obtain ⟨cw1, _⟩ := hW.cell hl0
        have fw := VRow.frozen hW (k * 2)
        have hWs := WRow.set1 hW hl0 (-1)
        rw [l0_set] at hWs
        have HWs := Lib.hid hWs; clear hWs hW
        have hsz3 := hV.v3.lt
        have hVs := hV.far HM.out HO.out (a := ⟨w1.heap.size, k * 2, none⟩) (by simp; omega) (by simp; omega) (by simp; omega) (by simp; omega) (.int .i64 (-1))
        have q0 := hVs.v3.cell (k := 0) rfl
        have q1 := hVs.v3.cell (k := 1) rfl
        have q2 := hVs.v3.cell (k := 2) rfl
        have q3 := hVs.v3.cell (k := 3) rfl
        have q4 := hVs.v3.cell (k := 4) rfl
        have HVs := Lib.hid hVs; clear hVs hV
        have hMs := hM.setCell (a := ⟨w1.heap.size, k * 2, none⟩) (by simp) (.int .i64 (-1))
        have HMs := Lib.hid hMs; clear hMs hM
        have i1 : (k : Int) < (pn : Int) := by omega
        have HNL := Lib.hid hnl; clear hnl
        go_wp2_with fail
        refine (reserved_any ra ba oa ha pa pn rc bn bc on oc hn hc pn pc m o _ HVs.out.mkt HVs.out.out HFIT.out k hlt).mono ?_
        rintro e w4 ⟨rfl, hb4⟩
        have HV4 := Lib.hid (HVs.out.step hb4); clear HVs
        have HW4 := Lib.hid (HWs.out.step hb4); clear HWs
        have HM4 := Lib.hid (HMs.out.below hb4); clear HMs hb4 q0 q1 q2 q3 q4
        have hlf := leftN_le pn (s0 (woodOf m o) k)
        cases hr : resB m o k with
        | true =>
          have hs := s0_yes (W := woodOf m o) (k := k) hr
          have hl1 := leftN_put (p := (-1, 0)) (s0_at (woodOf m o) k) hlt
          rw [← hs] at hl1
          have hpf : putI (rkF (s0 (woodOf m o) k)) (k : Int) 0 = rkF (putS (s0 (woodOf m o) k) k (-1, 0)) := rkF_put (s0 (woodOf m o) k) k (-1, 0)
          rw [← hs] at hpf
          have HNW := Lib.hid (show rkF (s0 (woodOf m o) k) (k : Int) = none by rw [rkF_item, s0_at]; rfl)
          have HS := Lib.hid hs; clear hs hr
          have HPF := Lib.hid hpf; clear hpf
          go_wp2_with (at_mapUpdate; refine updateI _ rfl _ _ _ rfl _ _ _ _ (k : Int) 0 rfl HM4.out (by have := HNL.out; omega) rfl rfl ⟨by omega, by omega⟩ ⟨by omega, by omega⟩ HNW.out ?_)
          intro w5 hM5 hg5
          rw [HPF.out] at hM5
          have HM5 := Lib.hid hM5; clear hM5
          have HV5 := Lib.hid (HV4.out.grown HM.out HO.out hg5 (by omega) (by omega) (by omega) (by omega))
          have HW5 := Lib.hid (HW4.out.grown hg5 (by simp)); clear hg5
          go_wp2_with fail
          go_roundg (gk - 1)
          case measure => have := HKK.out; omega
          case rel => exact ⟨k + 1, by have := HKK.out; omega, by go_num, by go_num, HV5.out, HW5.out, n + 1, _, by have := HNL.out; omega, HM5.out⟩
        | false =>
          have hs := s0_no (W := woodOf m o) (k := k) hr
          have HS := Lib.hid hs; clear hs hr
          go_wp2_with fail
          go_roundg (gk - 1)
          case measure => have := HKK.out; omega
          case rel => exact ⟨k + 1, by have := HKK.out; omega, by go_num, by rw [HS.out], HV4.out, HW4.out, n, cnt, by rw [HS.out]; exact HNL.out, by rw [HS.out]; exact HM4.out⟩
      · obtain rfl : k = pn := by have := HKK.out; omega
        rw [l0_all (woodOf m o)] at hW
        rw [leftN_s0] at hnl ⊢
        go_wp2_with fail
        go_step3
        rename_i hkk
        refine hkk _ _ ?_
        refine HNEXT.out _ _ ⟨0, w1.heap.size, w1.heap.size + 1, ?_⟩
        have hsz3 := hV.v3.lt
        exact ⟨by have := leftN_le k (lv (woodOf m o) 0); omega, _, ⟨hV, hW, ⟨n, cnt, hnl, hM⟩, rfl, by omega, by omega, by omega, by omega, by omega, by omega, by omega, by omega, by omega⟩, _, rfl, rfl, rfl, rfl, rfl, rfl, rfl, rfl, rfl, rfl, rfl⟩

set_option maxRecDepth 100000 in
set_option maxHeartbeats 2000000 in
theorem fof_no (ra ba oa ha pa : Option Addr) (rn rc bn bc on oc hn hc pn pc : Nat) (m : Mkt) (o : Outc) (w : World) (hm : MktAt w ra ba oa rn rc bn bc on oc m) (ho : OutAt w ha pa hn hc pn pc o) (hfb : fitsB m o = false) :
    Calls Try.prog 22 #[.agg #[.slice ra rn rc, .slice ba bn bc, .slice oa on oc], .agg #[.slice ha hn hc, .slice pa pn pc]] w fun e w' => e = .returned (.tuple #[.slice none 0 0, .int .i64 1]) ∧ Below w.heap.size w w' := by
  have HV0 := Lib.hid (VAt.new w hm ho)
  have HFB := Lib.hid hfb; clear hfb hm ho
  go_enter Try.func22, Try.ntmps22
  go_wp2_with fail
  refine wp_scope_once 0 (fun _ _ => False) (fun _ _ => 0) rfl ?first (fun _ _ h => h.elim)
  intro _
  go_wp2_with fail
  refine (fits_any ra ba oa ha pa rn rc bn bc on oc hn hc pn pc m o _ HV0.out.mkt HV0.out.out).mono ?_
  rw [HFB.out]
  rintro e w1 ⟨rfl, hb⟩
  have HV1 := Lib.hid (HV0.out.step hb); clear hb HV0
  go_wp2_with fail
  rw [jump_ret]
  go_ret2
  exact ⟨rfl, HV1.out.below⟩
end Go.Proofs.Ytbnjeegicbffeaa
