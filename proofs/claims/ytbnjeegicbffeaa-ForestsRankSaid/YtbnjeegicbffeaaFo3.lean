/- Walks: forests: would a bidder as well have an item? -/
import Derived.Test.YtbnjeegicbffeaaFo2
namespace Go.Proofs.Ytbnjeegicbffeaa
open Go.RowKit Sale

theorem by_kept (w0 : World) (y : Kept (Below w0.heap.size w0)) (ra ba oa ha pa : Option Addr) (rn rc bn bc on oc hn hc pn pc : Nat) (m : Mkt) (o : Outc) (hm : MktAt w0 ra ba oa rn rc bn bc on oc m) (ho : OutAt w0 ha pa hn hc pn pc o) (hf : FitOk m o) (i : Nat) (b : List Int) (hb : m.bids[i]? = some b) (hb0 : 0 < b.length)
    (x : Int) (hx1 : -1 ≤ x) (hx2 : x < (rn : Int)) (V : Int) (hV : byV m o i x = V) :
    Calls Try.prog 67 #[.agg #[.slice ra rn rc, .slice ba bn bc, .slice oa on oc, .slice ha hn hc, .slice pa pn pc], .int .i64 i, .int .i64 x] y.w fun e w' => e = .returned (.int .i64 V) ∧ ∃ z : Kept (Below w0.heap.size w0), w' = z.w := by
  subst hV
  exact Kept.call ((by_any ra ba oa ha pa rn rc bn bc on oc hn hc pn pc m o y.w (hm.below y.h (Nat.le_refl _)) (ho.below y.h (Nat.le_refl _)) hf i b hb hb0 x hx1 hx2).mono fun _ _ ⟨h1, h2⟩ => ⟨h1, y.h.trans (h2.mono y.h.size)⟩)

set_option maxRecDepth 100000 in
set_option maxHeartbeats 2000000 in
theorem well_any (ra ba oa ha pa : Option Addr) (rn rc bn bc on oc hn hc pn pc : Nat) (m : Mkt) (o : Outc) (w : World) (hm : MktAt w ra ba oa rn rc bn bc on oc m) (ho : OutAt w ha pa hn hc pn pc o) (hf : FitOk m o) (i : Nat) (hi : i < bn) (k : Nat) (hk : k < rn) :
    Calls Try.prog 43 #[.agg #[.slice ra rn rc, .slice ba bn bc, .slice oa on oc, .slice ha hn hc, .slice pa pn pc], .int .i64 i, .int .i64 k] w fun e w' => e = .returned (.bool (wellB m o i k)) ∧ Below w.heap.size w w' := by
  have HB0 := Lib.hid (vw_start w ra ba oa ha pa rn rc bn bc on oc hn hc pn pc)
  obtain ⟨c0, c1, c2, c3, c4, hs, hbw⟩ := vw_kept HB0.out
  have hm1 := hm.below hbw (Nat.le_refl _)
  have ho1 := ho.below hbw (Nat.le_refl _)
  have HBW := Lib.hid hbw; clear hbw
  have hhn : hn = bn := by rw [← ho.has.len, ← hm.bids.len]; exact hf.hlen
  subst hhn
  obtain ⟨b, hb⟩ := hm1.bids.get hi
  obtain ⟨x, hx, _⟩ := ho1.has.get hi
  obtain ⟨bb, bo, rfl⟩ := hm1.bids.addr (by omega)
  obtain ⟨hb', ho', rfl⟩ := ho1.has.addr (by omega)
  obtain ⟨la, ln, lc, hcl, hli⟩ := hm1.bids.cell bb bo rfl i b hb
  have cx := ho1.has.cell hb' ho' rfl i x hx
  have hll := hli.len
  have hxb := hf.item x (List.mem_of_getElem? hx)
  rw [hm.res.len] at hxb
  have hv : wellB m o i k = (decide (0 < ln) && ((x != (k : Int)) && (byV m o i x == byV m o i k))) := by
    unfold wellB
    rw [bids_at hb, getD_at hx, hll]
  obtain ⟨bf, hbf⟩ : ∃ bf, bf = wellB m o i k := ⟨_, rfl⟩
  rw [← hbf]
  rw [hv] at hbf
  have HBF := Lib.hid hbf; clear hbf hv
  have i1 : (i : Int) < (hn : Int) := by omega
  have HF := Lib.hid hf; clear hf
  have HBI := Lib.hid hb; clear hb
  have HX := Lib.hid hx; clear hx hli
  obtain ⟨w1, hw1⟩ : ∃ w1, w1 = vw w ra (some ⟨bb, bo, none⟩) oa (some ⟨hb', ho', none⟩) pa rn rc hn bc on oc hn hc pn pc := ⟨_, rfl⟩
  rw [← hw1] at c0 c1 c2 c3 c4 hcl cx hm1 ho1 HBW
  have HM1 := Lib.hid hm1; clear hm1
  have HO1 := Lib.hid ho1; clear ho1
  have hw1' : w.alloc (.cells #[.slice ra rn rc, .slice (some ⟨bb, bo, none⟩) hn bc, .slice oa on oc, .slice (some ⟨hb', ho', none⟩) hn hc, .slice pa pn pc] 69) = w1 := hw1.symm
  clear hw1 HB0 hm ho
  go_enter Try.func43, Try.ntmps43
  go_upto_region 2 with fail
  try rw [hw1']
  clear hw1'
  have hbd : Below w1.heap.size w1 w1.drew := (Below.refl _ _).drew
  have hne' : Nonempty (Kept (Below w1.heap.size w1)) := ⟨⟨_, hbd⟩⟩
  have k0 : ∀ z : Kept (Below w1.heap.size w1), z.w.cell? ⟨w.heap.size, 0, none⟩ = some (.slice ra rn rc) := fun z => cell_step z.h c0
  have k1 : ∀ z : Kept (Below w1.heap.size w1), z.w.cell? ⟨w.heap.size, 1, none⟩ = some (.slice (some ⟨bb, bo, none⟩) hn bc) := fun z => cell_step z.h c1
  have k2 : ∀ z : Kept (Below w1.heap.size w1), z.w.cell? ⟨w.heap.size, 2, none⟩ = some (.slice oa on oc) := fun z => cell_step z.h c2
  have k3 : ∀ z : Kept (Below w1.heap.size w1), z.w.cell? ⟨w.heap.size, 3, none⟩ = some (.slice (some ⟨hb', ho', none⟩) hn hc) := fun z => cell_step z.h c3
  have k4 : ∀ z : Kept (Below w1.heap.size w1), z.w.cell? ⟨w.heap.size, 4, none⟩ = some (.slice pa pn pc) := fun z => cell_step z.h c4
  have k5 : ∀ z : Kept (Below w1.heap.size w1), z.w.cell? ⟨bb, bo + i, none⟩ = some (.slice la ln lc) := fun z => cell_step z.h hcl
  clear c0 c1 c2 c3 c4 hcl cx
  by_cases h0 : 0 < ln
  · have e1 : decide (0 < (ln : Int)) = true := by simp; omega
    by_cases h1 : x = (k : Int)
    · subst h1
      have h0' : decide (0 < ln) = true := by simpa using h0
      refine wp_region_kept (Below w1.heap.size w1) (by kernel_rfl) (by kernel_rfl) hbd ?_
      repeat (go_big_quiet_step (fail))
      refine wpQuiet_nil ?_
      intro _ hw'
      obtain ⟨⟨w4, hb4⟩, rfl⟩ := hw'
      clear k0 k1 k2 k3 k4 k5 hne'
      go_wp2_with fail
      go_ret
      exact ⟨by rw [HBF.out]; simp, HBW.out.trans (hb4.mono HBW.out.size)⟩
    · have e2 : (x != (k : Int)) = true := by simpa using h1
      obtain ⟨u, hu⟩ : ∃ u, byV m o i x = u := ⟨_, rfl⟩
      obtain ⟨v, hv⟩ : ∃ v, byV m o i k = v := ⟨_, rfl⟩
      have HU := Lib.hid hu
      have HV := Lib.hid hv
      rw [hu, hv] at HBF
      clear hu hv
      have h0b : 0 < b.length := by omega
      have hA := fun z : Kept (Below w1.heap.size w1) => by_kept w1 z ra (some ⟨bb, bo, none⟩) oa (some ⟨hb', ho', none⟩) pa rn rc hn bc on oc hn hc pn pc m o HM1.out HO1.out HF.out i b HBI.out h0b x hxb.1 hxb.2 u HU.out
      have hB := fun z : Kept (Below w1.heap.size w1) => by_kept w1 z ra (some ⟨bb, bo, none⟩) oa (some ⟨hb', ho', none⟩) pa rn rc hn bc on oc hn hc pn pc m o HM1.out HO1.out HF.out i b HBI.out h0b (k : Int) (by omega) (by omega) v HV.out
      have HA := Lib.hid hA; clear hA
      have HB := Lib.hid hB; clear hB
      refine wp_region_kept (Below w1.heap.size w1) (by kernel_rfl) (by kernel_rfl) hbd ?_
      repeat (go_big_quiet_step ((go_at_call 67; first | with_reducible exact HA.out _ | with_reducible exact HB.out _)))
      refine wpQuiet_nil ?_
      intro _ hw'
      obtain ⟨⟨w4, hb4⟩, rfl⟩ := hw'
      clear k0 k1 k2 k3 k4 k5 hne'
      go_wp2_with fail
      go_ret
      exact ⟨by rw [HBF.out, e2, decide_eq_true h0]; simp, HBW.out.trans (hb4.mono HBW.out.size)⟩
  · obtain rfl : ln = 0 := by omega
    refine wp_region_kept (Below w1.heap.size w1) (by kernel_rfl) (by kernel_rfl) hbd ?_
    repeat (go_big_quiet_step (fail))
    refine wpQuiet_nil ?_
    intro _ hw'
    obtain ⟨⟨w4, hb4⟩, rfl⟩ := hw'
    clear k0 k1 k2 k3 k4 k5 hne'
    go_wp2_with fail
    go_ret
    exact ⟨by rw [HBF.out]; simp, HBW.out.trans (hb4.mono HBW.out.size)⟩
end Go.Proofs.Ytbnjeegicbffeaa
