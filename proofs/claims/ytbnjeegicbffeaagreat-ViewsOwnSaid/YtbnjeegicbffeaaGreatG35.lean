/- Walks: forests.Of. The second market of the chapters' examples, as the laws' texts make it. Walks: salesroomlaw16.lives. -/
import Derived.Test.YtbnjeegicbffeaaGreatG34
import Derived.Test.YtbnjeegicbffeaaGreatG28
/- Walks: forests.Of. -/
namespace Go.Proofs.YtbnjeegicbffeaaGreat
open Go.RowKit Sale Tree

theorem ojump_ret {l : Nat} {J : Act → World → Prop} {Q : Exit → Act → World → Prop} {a : Act} {w : World} : Exit.jump l J Q .ret a w = Q .ret a w := rfl
set_option maxRecDepth 100000 in
set_option maxHeartbeats 4000000 in
theorem fof_any (ra ba oa ha pa : Option Addr) (rn rc bn bc on oc hn hc pn pc : Nat) (m : Mkt) (o : Outc) (w : World) (hm : MktAt w ra ba oa rn rc bn bc on oc m) (ho : OutAt w ha pa hn hc pn pc o) (hfb : ofitsB m o = true) :
    Calls Tryz.prog 38 #[.agg #[.slice ra rn rc, .slice ba bn bc, .slice oa on oc], .agg #[.slice ha hn hc, .slice pa pn pc]] w (FofSays m o w) := by
  have HV0 := Lib.hid (VAt.new w hm ho)
  have hhl := ho.has.len
  have hpl := ho.prices.len
  have hfit := ofitsB_ok hfb
  have HFB := Lib.hid hfb; clear hfb
  have HM := Lib.hid hm; clear hm
  have HO := Lib.hid ho; clear ho
  go_enter Tryz.func38, Tryz.ntmps38
  go_wp2_with fail
  refine wp_scope_once 0 (fun a' w' => ∃ r Bo Bm, AtNext w w.heap.size (w.heap.size + 1) (w.heap.size + 1 + 1) Bo Bm ra ba oa ha pa rn rc bn bc on oc hn hc pn pc m o r a' w') fofMu rfl ?first ?pass
  case pass => exact fun a' w' hJ => fof_pass ra ba oa ha pa rn rc bn bc on oc hn hc pn pc m o w HM.out HO.out hfit _ _ _ a' w' hJ
  case first =>
    intro hnext
    have HNEXT := Lib.hid hnext; clear hnext
    go_wp2_with fail
    refine (ofits_any ra ba oa ha pa rn rc bn bc on oc hn hc pn pc m o _ HV0.out.mkt HV0.out.out).mono ?_
    rw [HFB.out]
    rintro e w1 ⟨rfl, hb⟩
    have HV1 := Lib.hid (HV0.out.step hb); clear hb HV0
    have c1 := HV1.out.v2.cell (k := 1) rfl
    have hn8 := hfit.mok.n8
    rw [HV1.out.mkt.res.len] at hn8
    have hrn : pn = rn := by rw [← HV1.out.mkt.res.len, ← hfit.plen, hpl]
    subst hrn
    have HFIT := Lib.hid hfit; clear hfit
    have hmk := mkWhys pn (by omega)
    have hmm := fun w => run_makeMap (P := Tryz.prog) 113 w
    obtain ⟨w2, hw2⟩ : ∃ w2, w2 = w1.alloc (.cells (pairVals (List.replicate pn (0, 0))).toArray 75) := ⟨_, rfl⟩
    have hM0 := MapI.new w2
    have hsz2 : w2.heap.size = w1.heap.size + 1 := by rw [hw2]; simp
    rw [hsz2, hw2] at hM0
    have HM0 := Lib.hid hM0; clear hM0 hw2 hsz2 w2
    go_wp2_with (refine insertI _ rfl _ _ _ rfl _ _ _ _ (-1) 0 rfl HM0.out (by omega) rfl rfl ⟨by omega, by omega⟩ ⟨by omega, by omega⟩ rfl ?_)
    intro w3 hM3 hg3
    have hb3 : Below w1.heap.size w1 w3 := (((Below.refl _ w1).alloc (Nat.le_refl _) (.cells (pairVals (List.replicate pn (0, 0))).toArray 75)).alloc (by simp) (.map #[] 0)).grown hg3 (by simp; omega) (fun k hk => by cases hk; omega)
    have hW3 : WRow w3 w1.heap.size (l0 pn 0) := by
      rw [l0_zero]
      exact WRow.grown (WRow.step (VRow.new w1 75 (pairVals (List.replicate pn (0, 0)))) ((Below.refl _ _).alloc (Nat.le_refl _) _)) hg3 (by simp)
    have HV3 := Lib.hid (HV1.out.step hb3)
    have hs1 := HV1.out.v3.lt
    have hs0' := HV1.out.v1.lt
    have HB3 := Lib.hid hb3; clear hb3
    have HW3 := Lib.hid hW3; clear hW3
    have hM3' : MapI w3 (w1.heap.size + 1) 1 (rkF (s0 (woodOf m o) 0)) 1 := by
      have e : rkF (s0 (woodOf m o) 0) = putI (fun _ => none) (-1) 0 := by
        funext y
        rw [s0_zero]
        unfold rkF putI
        by_cases h : y = -1
        · rw [if_pos h, if_pos h]
        · rw [if_neg h, if_neg h]; simp
      rw [e]; exact hM3
    have HM3 := Lib.hid hM3'; clear hM3 hM3' hg3 HM0 c1 hmk hmm
    go_wp2_with fail
    go_loopg [8, 38] pn (fun g' s8 s38 wr => ∃ k : Nat, k + g' = pn ∧ s38 = .int .i64 k ∧ s8 = .int .i64 (leftN pn (s0 (woodOf m o) k) : Nat) ∧ VAt w w.heap.size (w.heap.size + 1) (w.heap.size + 1 + 1) ra ba oa ha pa pn rc bn bc on oc hn hc pn pc m o wr ∧ WRow wr w1.heap.size (l0 pn k) ∧
      ∃ n cnt, n + leftN pn (s0 (woodOf m o) k) = pn + 1 ∧ MapI wr (w1.heap.size + 1) n (rkF (s0 (woodOf m o) k)) cnt)
    case atStart => exact ⟨0, by omega, rfl, by rw [s0_zero, leftN_none], HV3.out, HW3.out, 1, 1, by rw [s0_zero, leftN_none]; omega, HM3.out⟩
    case round =>
      obtain ⟨k, hk, rfl, rfl, hV, hW, n, cnt, hnl, hM⟩ := hrel
      have HKK := Lib.hid hk; clear hk
      by_cases hlt : k < pn
      · have hl0 := l0_get (n := pn) (k := k) hlt
        rw [if_neg (by omega)] at hl0
        obtain ⟨cw1, _⟩ := hW.cell hl0
        have fw := VRow.frozen hW (k * 2)
        have hWs := WRow.set1 hW hl0 (-1)
        rw [l0_set] at hWs
        have HWs := Lib.hid hWs; clear hWs hW
        have hsz3 := hV.v3.lt
        have hVs := hV.far HM.out HO.out (a := ⟨w1.heap.size, k * 2, none⟩) (by simp; omega) (by simp; omega) (by simp; omega) (by simp; omega) (.int .i64 (-1))
        have q0 := hVs.v3.cell (k := 0) rfl
        have q1 := hVs.v3.cell (k := 1) rfl
        have q2 := hVs.v3.cell (k := 2) rfl
        have q3 := hVs.v3.cell (k := 3) rfl
        have q4 := hVs.v3.cell (k := 4) rfl
        have HVs := Lib.hid hVs; clear hVs hV
        have hMs := hM.setCell (a := ⟨w1.heap.size, k * 2, none⟩) (by simp) (.int .i64 (-1))
        have HMs := Lib.hid hMs; clear hMs hM
        have i1 : (k : Int) < (pn : Int) := by omega
        have HNL := Lib.hid hnl; clear hnl
        go_wp2_with fail
        refine (reserved_any ra ba oa ha pa pn rc bn bc on oc hn hc pn pc m o _ HVs.out.mkt HVs.out.out HFIT.out k hlt).mono ?_
        rintro e w4 ⟨rfl, hb4⟩
        have HV4 := Lib.hid (HVs.out.step hb4); clear HVs
        have HW4 := Lib.hid (HWs.out.step hb4); clear HWs
        have HM4 := Lib.hid (HMs.out.below hb4); clear HMs hb4 q0 q1 q2 q3 q4
        have hlf := leftN_le pn (s0 (woodOf m o) k)
        cases hr : resB m o k with
        | true =>
          have hs := s0_yes (W := woodOf m o) (k := k) hr
          have hl1 := leftN_put (p := (-1, 0)) (s0_at (woodOf m o) k) hlt
          rw [← hs] at hl1
          have hpf : putI (rkF (s0 (woodOf m o) k)) (k : Int) 0 = rkF (putS (s0 (woodOf m o) k) k (-1, 0)) := rkF_put (s0 (woodOf m o) k) k (-1, 0)
          rw [← hs] at hpf
          have HNW := Lib.hid (show rkF (s0 (woodOf m o) k) (k : Int) = none by rw [rkF_item, s0_at]; rfl)
          have HS := Lib.hid hs; clear hs hr
          have HPF := Lib.hid hpf; clear hpf
          go_wp2_with (at_mapUpdate; refine updateI _ rfl _ _ _ rfl _ _ _ _ (k : Int) 0 rfl HM4.out (by have := HNL.out; omega) rfl rfl ⟨by omega, by omega⟩ ⟨by omega, by omega⟩ HNW.out ?_)
          intro w5 hM5 hg5
          rw [HPF.out] at hM5
          have HM5 := Lib.hid hM5; clear hM5
          have HV5 := Lib.hid (HV4.out.grown HM.out HO.out hg5 (by omega) (by omega) (by omega) (by omega))
          have HW5 := Lib.hid (HW4.out.grown hg5 (by simp)); clear hg5
          go_wp2_with fail
          go_roundg (gk - 1)
          case measure => have := HKK.out; omega
          case rel => exact ⟨k + 1, by have := HKK.out; omega, by go_num, by go_num, HV5.out, HW5.out, n + 1, _, by have := HNL.out; omega, HM5.out⟩
        | false =>
          have hs := s0_no (W := woodOf m o) (k := k) hr
          have HS := Lib.hid hs; clear hs hr
          go_wp2_with fail
          go_roundg (gk - 1)
          case measure => have := HKK.out; omega
          case rel => exact ⟨k + 1, by have := HKK.out; omega, by go_num, by rw [HS.out], HV4.out, HW4.out, n, cnt, by rw [HS.out]; exact HNL.out, by rw [HS.out]; exact HM4.out⟩
      · obtain rfl : k = pn := by have := HKK.out; omega
        rw [l0_all (woodOf m o)] at hW
        rw [leftN_s0] at hnl ⊢
        go_wp2_with fail
        go_step3
        rename_i hkk
        refine hkk _ _ ?_
        refine HNEXT.out _ _ ⟨0, w1.heap.size, w1.heap.size + 1, ?_⟩
        have hsz3 := hV.v3.lt
        exact ⟨by have := leftN_le k (lv (woodOf m o) 0); omega, _, ⟨hV, hW, ⟨n, cnt, hnl, hM⟩, rfl, by omega, by omega, by omega, by omega, by omega, by omega, by omega, by omega, by omega⟩, _, rfl, rfl, rfl, rfl, rfl, rfl, rfl, rfl, rfl, rfl, rfl⟩

set_option maxRecDepth 100000 in
set_option maxHeartbeats 2000000 in
theorem fof_no (ra ba oa ha pa : Option Addr) (rn rc bn bc on oc hn hc pn pc : Nat) (m : Mkt) (o : Outc) (w : World) (hm : MktAt w ra ba oa rn rc bn bc on oc m) (ho : OutAt w ha pa hn hc pn pc o) (hfb : ofitsB m o = false) :
    Calls Tryz.prog 38 #[.agg #[.slice ra rn rc, .slice ba bn bc, .slice oa on oc], .agg #[.slice ha hn hc, .slice pa pn pc]] w fun e w' => e = .returned (.tuple #[.slice none 0 0, .int .i64 1]) ∧ Below w.heap.size w w' := by
  have HV0 := Lib.hid (VAt.new w hm ho)
  have HFB := Lib.hid hfb; clear hfb hm ho
  go_enter Tryz.func38, Tryz.ntmps38
  go_wp2_with fail
  refine wp_scope_once 0 (fun _ _ => False) (fun _ _ => 0) rfl ?first (fun _ _ h => h.elim)
  intro _
  go_wp2_with fail
  refine (ofits_any ra ba oa ha pa rn rc bn bc on oc hn hc pn pc m o _ HV0.out.mkt HV0.out.out).mono ?_
  rw [HFB.out]
  rintro e w1 ⟨rfl, hb⟩
  have HV1 := Lib.hid (HV0.out.step hb); clear hb HV0
  go_wp2_with fail
  rw [ojump_ret]
  go_ret2
  exact ⟨rfl, HV1.out.below⟩
end Go.Proofs.YtbnjeegicbffeaaGreat

/- The second market of the chapters' examples, as the laws' texts make it. -/
namespace Go.Proofs.YtbnjeegicbffeaaGreat
open Go.RowKit

def m2 : Mkt := ⟨[0, 0], [[4, 4], [4, 4], [3, 0]], [0, 1, 2]⟩
def m2w (w : World) (N : Nat) : World := (((((((w.alloc (.cells #[.int .i64 0, .int .i64 0] 3)).alloc (.cells #[.int .i64 4, .int .i64 4] 3)).alloc (.cells #[.int .i64 4, .int .i64 4] 3)).alloc (.cells #[.int .i64 3, .int .i64 0] 3)).alloc (.cells #[.slice (some ⟨N + 1, 0, none⟩) 2 2, .slice (some ⟨N + 1 + 1, 0, none⟩) 2 2, .slice (some ⟨N + 1 + 1 + 1, 0, none⟩) 2 2] 23)).alloc (.cells #[.int .i64 0, .int .i64 1, .int .i64 2] 3)).alloc (.cells #[.slice (some ⟨N, 0, none⟩) 2 2, .slice (some ⟨N + 1 + 1 + 1 + 1, 0, none⟩) 3 3, .slice (some ⟨N + 1 + 1 + 1 + 1 + 1, 0, none⟩) 3 3] 28))
structure M2At (w : World) (N : Nat) (W : World) : Prop where
  mkt : MktAt W (some ⟨N, 0, none⟩) (some ⟨N + 1 + 1 + 1 + 1, 0, none⟩) (some ⟨N + 1 + 1 + 1 + 1 + 1, 0, none⟩) 2 2 3 3 3 3 m2
  row : VRow W (N + 1 + 1 + 1 + 1 + 1 + 1) 28 [.slice (some ⟨N, 0, none⟩) 2 2, .slice (some ⟨N + 1 + 1 + 1 + 1, 0, none⟩) 3 3, .slice (some ⟨N + 1 + 1 + 1 + 1 + 1, 0, none⟩) 3 3]
  below : Below w.heap.size w W
theorem M2At.step {w W W' : World} {N : Nat} (h : M2At w N W) (hb : Below W.heap.size W W') : M2At w N W' :=
  ⟨h.mkt.below hb (Nat.le_refl _), h.row.below hb h.row.lt, h.below.trans (hb.mono h.below.size)⟩
theorem M1At.stepTo {w W W' : World} (h : M1At w W) {B : Nat} (hB : W.heap.size ≤ B) (hb : Below B W W') : M1At w W' := h.step (hb.mono hB)
theorem m2_at (w : World) (N : Nat) (hN : w.heap.size = N) : M2At w N (m2w w N) := by
  subst hN
  have hB : Below w.heap.size w (m2w w w.heap.size) := (((((((Below.refl _ w).alloc (Nat.le_refl _) _).alloc (by simp) _).alloc (by simp; omega) _).alloc (by simp; omega) _).alloc (by simp; omega) _).alloc (by simp; omega) _).alloc (by simp; omega) _
  have r0 : Row (m2w w w.heap.size) (w.heap.size) 3 [0, 0] := (((((((Row.new' (w) 3 [0, 0] (by simp)).alloc _).alloc _).alloc _).alloc _).alloc _).alloc _)
  have r1 : Row (m2w w w.heap.size) (w.heap.size + 1) 3 [4, 4] := ((((((Row.new' ((w.alloc (.cells #[.int .i64 0, .int .i64 0] 3))) 3 [4, 4] (by simp)).alloc _).alloc _).alloc _).alloc _).alloc _)
  have r2 : Row (m2w w w.heap.size) (w.heap.size + 1 + 1) 3 [4, 4] := (((((Row.new' (((w.alloc (.cells #[.int .i64 0, .int .i64 0] 3)).alloc (.cells #[.int .i64 4, .int .i64 4] 3))) 3 [4, 4] (by simp)).alloc _).alloc _).alloc _).alloc _)
  have r3 : Row (m2w w w.heap.size) (w.heap.size + 1 + 1 + 1) 3 [3, 0] := ((((Row.new' ((((w.alloc (.cells #[.int .i64 0, .int .i64 0] 3)).alloc (.cells #[.int .i64 4, .int .i64 4] 3)).alloc (.cells #[.int .i64 4, .int .i64 4] 3))) 3 [3, 0] (by simp)).alloc _).alloc _).alloc _)
  have r5 : Row (m2w w w.heap.size) (w.heap.size + 1 + 1 + 1 + 1 + 1) 3 [0, 1, 2] := ((Row.new' ((((((w.alloc (.cells #[.int .i64 0, .int .i64 0] 3)).alloc (.cells #[.int .i64 4, .int .i64 4] 3)).alloc (.cells #[.int .i64 4, .int .i64 4] 3)).alloc (.cells #[.int .i64 3, .int .i64 0] 3)).alloc (.cells #[.slice (some ⟨w.heap.size + 1, 0, none⟩) 2 2, .slice (some ⟨w.heap.size + 1 + 1, 0, none⟩) 2 2, .slice (some ⟨w.heap.size + 1 + 1 + 1, 0, none⟩) 2 2] 23))) 3 [0, 1, 2] (by simp)).alloc _)
  have v4 : VRow (m2w w w.heap.size) (w.heap.size + 1 + 1 + 1 + 1) 23 [.slice (some ⟨w.heap.size + 1, 0, none⟩) 2 2, .slice (some ⟨w.heap.size + 1 + 1, 0, none⟩) 2 2, .slice (some ⟨w.heap.size + 1 + 1 + 1, 0, none⟩) 2 2] := by
    have h := VRow.new (((((w.alloc (.cells #[.int .i64 0, .int .i64 0] 3)).alloc (.cells #[.int .i64 4, .int .i64 4] 3)).alloc (.cells #[.int .i64 4, .int .i64 4] 3)).alloc (.cells #[.int .i64 3, .int .i64 0] 3))) 23 [.slice (some ⟨w.heap.size + 1, 0, none⟩) 2 2, .slice (some ⟨w.heap.size + 1 + 1, 0, none⟩) 2 2, .slice (some ⟨w.heap.size + 1 + 1 + 1, 0, none⟩) 2 2]
    rw [show (((((w.alloc (.cells #[.int .i64 0, .int .i64 0] 3)).alloc (.cells #[.int .i64 4, .int .i64 4] 3)).alloc (.cells #[.int .i64 4, .int .i64 4] 3)).alloc (.cells #[.int .i64 3, .int .i64 0] 3))).heap.size = w.heap.size + 1 + 1 + 1 + 1 by simp] at h
    exact (h.alloc _).alloc _
  refine ⟨⟨row_lit r0 rfl (by omega) (by decide), rows_lit v4 rfl rfl (by omega) fun i xs hi => ?_, row_lit r5 rfl (by omega) (by decide)⟩, ?_, hB⟩
  · match i, hi with
    | 0, hi => cases hi; exact ⟨_, _, rfl, row_lit r1 rfl (by decide) (by decide)⟩
    | 1, hi => cases hi; exact ⟨_, _, rfl, row_lit r2 rfl (by decide) (by decide)⟩
    | 2, hi => cases hi; exact ⟨_, _, rfl, row_lit r3 rfl (by decide) (by decide)⟩
  · have h := VRow.new (((((((w.alloc (.cells #[.int .i64 0, .int .i64 0] 3)).alloc (.cells #[.int .i64 4, .int .i64 4] 3)).alloc (.cells #[.int .i64 4, .int .i64 4] 3)).alloc (.cells #[.int .i64 3, .int .i64 0] 3)).alloc (.cells #[.slice (some ⟨w.heap.size + 1, 0, none⟩) 2 2, .slice (some ⟨w.heap.size + 1 + 1, 0, none⟩) 2 2, .slice (some ⟨w.heap.size + 1 + 1 + 1, 0, none⟩) 2 2] 23)).alloc (.cells #[.int .i64 0, .int .i64 1, .int .i64 2] 3))) 28 [.slice (some ⟨w.heap.size, 0, none⟩) 2 2, .slice (some ⟨w.heap.size + 1 + 1 + 1 + 1, 0, none⟩) 3 3, .slice (some ⟨w.heap.size + 1 + 1 + 1 + 1 + 1, 0, none⟩) 3 3]
    rw [show (((((((w.alloc (.cells #[.int .i64 0, .int .i64 0] 3)).alloc (.cells #[.int .i64 4, .int .i64 4] 3)).alloc (.cells #[.int .i64 4, .int .i64 4] 3)).alloc (.cells #[.int .i64 3, .int .i64 0] 3)).alloc (.cells #[.slice (some ⟨w.heap.size + 1, 0, none⟩) 2 2, .slice (some ⟨w.heap.size + 1 + 1, 0, none⟩) 2 2, .slice (some ⟨w.heap.size + 1 + 1 + 1, 0, none⟩) 2 2] 23)).alloc (.cells #[.int .i64 0, .int .i64 1, .int .i64 2] 3))).heap.size = w.heap.size + 1 + 1 + 1 + 1 + 1 + 1 by simp] at h
    exact h
end Go.Proofs.YtbnjeegicbffeaaGreat

/- Walks: salesroomlaw16.lives. -/
namespace Go.Proofs.YtbnjeegicbffeaaGreat
open Go.RowKit Sale Tree

theorem fofS_yes {m : Mkt} {o : Outc} {w w' : World} {e : Ending} (h : FofSays m o w e w') (l : List (Int × Int)) (ha : allB (woodOf m o) = true) (hl : outL o.prices.length (lv (woodOf m o) o.prices.length) = l) :
    ∃ b off c, e = .returned (.tuple #[.slice (some ⟨b, off, none⟩) l.length c, .int .i64 0]) ∧ Whys w' (some ⟨b, off, none⟩) l.length c l ∧ Below w.heap.size w w' ∨ l = [] := by
  subst hl
  obtain ⟨hb, (⟨_, a, n, c, rfl, hw⟩ | ⟨hn, _⟩)⟩ := h
  · have hlen := hw.len
    subst hlen
    by_cases h0 : (outL o.prices.length (lv (woodOf m o) o.prices.length)) = []
    · exact ⟨0, 0, 0, .inr h0⟩
    · obtain ⟨b, off, rfl⟩ := hw.addr (List.length_pos_iff.2 h0)
      exact ⟨b, off, c, .inl ⟨rfl, hw, hb⟩⟩
  · rw [ha] at hn; cases hn
theorem fofS_no {m : Mkt} {o : Outc} {w w' : World} {e : Ending} (h : FofSays m o w e w') (ha : allB (woodOf m o) = false) : e = .returned (.tuple #[.slice none 0 0, .int .i64 7]) ∧ Below w.heap.size w w' := by
  obtain ⟨hb, (⟨hy, _⟩ | ⟨_, e⟩)⟩ := h
  · rw [ha] at hy; cases hy
  · exact ⟨e, hb⟩

theorem out_lit (W : World) (N : Nat) (hN : W.heap.size = N) (hs ps : List Int) (hn pn : Nat) (h1 : hs.length = hn) (h2 : ps.length = pn) (hb1 : hn ≤ 100) (hb2 : pn ≤ 100) (hx1 : ∀ x, x ∈ hs → -1000 ≤ x ∧ x ≤ 1000) (hx2 : ∀ x, x ∈ ps → -1000 ≤ x ∧ x ≤ 1000) :
    OutAt ((W.alloc (.cells (iarr hs) 3)).alloc (.cells (iarr ps) 3)) (some ⟨N, 0, none⟩) (some ⟨N + 1, 0, none⟩) hn hn pn pn ⟨hs, ps⟩ ∧ Below W.heap.size W ((W.alloc (.cells (iarr hs) 3)).alloc (.cells (iarr ps) 3)) :=
  by subst hN; exact ⟨⟨row_lit ((Row.new W _ hs).alloc _) h1 hb1 hx1, row_lit (Row.new' _ _ ps (by simp)) h2 hb2 hx2⟩, ((Below.refl _ W).alloc (Nat.le_refl _) _).alloc (by simp) _⟩

def o1 : Outc := ⟨[0, -1], [5]⟩
def o2 : Outc := ⟨[0, -1], [6]⟩
def o3 : Outc := ⟨[0, 1, -1], [3, 3]⟩

set_option maxRecDepth 100000 in
set_option maxHeartbeats 400000 in
theorem lives16_any (w : World) : Calls Tryz.prog 37 #[] w fun e w' => e = .returned (.bool true) ∧ Below w.heap.size w w' := by
  have H0 := Lib.hid (m1_at w)
  have hs1 : (m1w w).heap.size = w.heap.size + 1 + 1 + 1 + 1 + 1 + 1 := by simp [m1w]
  have G1 := Lib.hid (m2_at (m1w w) _ hs1)
  have H1 := Lib.hid (H0.out.step (G1.out.below)); clear H0
  have HS1 := Lib.hid hs1; clear hs1
  have c0 := H1.out.row.cell (k := 0) rfl
  have c1 := H1.out.row.cell (k := 1) rfl
  have c2 := H1.out.row.cell (k := 2) rfl
  go_enter Tryz.func37, Tryz.ntmps37
  go_wp2_with fail
  have hsm : (m2w (m1w w) (w.heap.size + 1 + 1 + 1 + 1 + 1 + 1)).heap.size = w.heap.size + 1 + 1 + 1 + 1 + 1 + 1 + 1 + 1 + 1 + 1 + 1 + 1 + 1 := by simp [m2w, m1w]
  have h3 := out_lit (m2w (m1w w) (w.heap.size + 1 + 1 + 1 + 1 + 1 + 1)) _ hsm [0, -1] [5] 2 1 rfl rfl (by omega) (by omega) (by decide) (by decide)
  have H3 := Lib.hid (H1.out.step h3.2)
  have G3 := Lib.hid (G1.out.step h3.2)
  refine (fof_any _ _ _ _ _ 1 1 2 2 2 2 2 2 1 1 m1 o1 _ H3.out.mkt h3.1 (by decide +kernel)).mono ?_
  intro e w3 hf
  obtain ⟨lb, lo, lc, (⟨rfl, hy, hb⟩ | hl0)⟩ := fofS_yes hf [(1, 1)] (by decide +kernel) (by decide +kernel)
  case inr => cases hl0
  have H4 := Lib.hid (H3.out.step hb)
  have G4 := Lib.hid (G3.out.step hb)
  have Y4 := Lib.hid hy
  clear hf hb hy H3 G3 h3 c0 c1 c2 hsm HS1 H1 G1
  have c0 := H4.out.row.cell (k := 0) rfl
  have c1 := H4.out.row.cell (k := 1) rfl
  have c2 := H4.out.row.cell (k := 2) rfl
  go_wp2_with fail
  have h3 := out_lit w3 _ rfl [0, -1] [6] 2 1 rfl rfl (by omega) (by omega) (by decide) (by decide)
  have H5 := Lib.hid (H4.out.step h3.2)
  have G5 := Lib.hid (G4.out.step h3.2)
  have Y5 := Lib.hid (Y4.out.below h3.2 (Nat.le_refl _))
  refine (fof_any _ _ _ _ _ 1 1 2 2 2 2 2 2 1 1 m1 o2 _ H5.out.mkt h3.1 (by decide +kernel)).mono ?_
  intro e w4 hf
  obtain ⟨rfl, hb⟩ := fofS_no hf (by decide +kernel)
  have H6 := Lib.hid (H5.out.step hb)
  have G6 := Lib.hid (G5.out.step hb)
  have Y6 := Lib.hid (Y5.out.below hb (Nat.le_refl _))
  clear hf hb H5 G5 Y5 H4 G4 Y4 h3 c0 c1 c2
  have c0 := G6.out.row.cell (k := 0) rfl
  have c1 := G6.out.row.cell (k := 1) rfl
  have c2 := G6.out.row.cell (k := 2) rfl
  go_wp2_with fail
  have h3 := out_lit w4 _ rfl [0, 1, -1] [3, 3] 3 2 rfl rfl (by omega) (by omega) (by decide) (by decide)
  have H7 := Lib.hid (H6.out.step h3.2)
  have G7 := Lib.hid (G6.out.step h3.2)
  have Y7 := Lib.hid (Y6.out.below h3.2 (Nat.le_refl _))
  refine (fof_any _ _ _ _ _ 2 2 3 3 3 3 3 3 2 2 m2 o3 _ G7.out.mkt h3.1 (by decide +kernel)).mono ?_
  intro e w5 hf
  obtain ⟨kb, ko, kc, (⟨rfl, hy, hb⟩ | hl0)⟩ := fofS_yes hf [(2, 1), (0, 2)] (by decide +kernel) (by decide +kernel)
  case inr => cases hl0
  have Y8 := Lib.hid (Y7.out.below hb (Nat.le_refl _))
  have d0 := Y8.out.cell _ _ rfl 0 _ rfl
  have d1 := hy.cell _ _ rfl 0 _ rfl
  have d2 := hy.cell _ _ rfl 1 _ rfl
  simp only [Nat.zero_mul, Nat.add_zero, Nat.one_mul] at d0 d1 d2
  obtain ⟨d00, d01⟩ := d0
  obtain ⟨d10, d11⟩ := d1
  obtain ⟨d20, d21⟩ := d2
  have HB := Lib.hid (H7.out.below.trans (hb.mono H7.out.below.size))
  clear hf hb H6 H7 G6 G7 Y6 Y7 h3 c0 c1 c2 hy
  simp only [List.length_cons, List.length_nil]
  go_wp2_with fail
  go_ret
  exact ⟨rfl, HB.out⟩
end Go.Proofs.YtbnjeegicbffeaaGreat
