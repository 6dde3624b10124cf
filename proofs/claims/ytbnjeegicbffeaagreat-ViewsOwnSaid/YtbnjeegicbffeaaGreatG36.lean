/- Walks: outcomes.Of. The boxes of a market and of an outcome, wherever they lie; what comes of a market fits it. -/
import Derived.Test.YtbnjeegicbffeaaGreatG26
import Derived.Test.YtbnjeegicbffeaaGreatG23
import Derived.Test.YtbnjeegicbffeaaGreatG32
/- Walks: outcomes.Of. -/
namespace Go.Proofs.YtbnjeegicbffeaaGreat
open Go.RowKit Sale

def oc0 (w : World) (ra ba oa : Option Addr) (rn rc bn bc on oc : Nat) : World := (mw w ra ba oa rn rc bn bc on oc).alloc (.cells #[.slice none 0 0, .slice none 0 0] 30)
theorem oc0_at (w : World) (ra ba oa : Option Addr) (rn rc bn bc on oc : Nat) : VRow (oc0 w ra ba oa rn rc bn bc on oc) w.heap.size 28 [.slice ra rn rc, .slice ba bn bc, .slice oa on oc] ∧
    VRow (oc0 w ra ba oa rn rc bn bc on oc) (w.heap.size + 1) 30 [.slice none 0 0, .slice none 0 0] ∧ Below w.heap.size w (oc0 w ra ba oa rn rc bn bc on oc) := by
  have h1 := VRow.new w 28 [.slice ra rn rc, .slice ba bn bc, .slice oa on oc]
  have h2 := VRow.new (mw w ra ba oa rn rc bn bc on oc) 30 [.slice none 0 0, .slice none 0 0]
  rw [show (mw w ra ba oa rn rc bn bc on oc).heap.size = w.heap.size + 1 by simp [mw]] at h2
  exact ⟨h1.alloc _, h2, ((Below.refl _ _).alloc (Nat.le_refl _) _).alloc (by simp) _⟩

theorem oof_results {h : Nat} {v0 v1 : Value} {tmps : Array Value} {e : Int} (t2 : tmps[2]?.getD undef = .pointer (some ⟨h + 1, 0, none⟩)) (t3 : tmps[3]?.getD undef = .int .i64 e) (W : World) (hO : VRow W (h + 1) 30 [v0, v1]) :
    (results Tryz.f23 tmps).run Tryz.prog W = .ok (.tuple #[.agg #[v0, v1], .int .i64 e]) W := by
  have c0 := hO.cell (k := 0) rfl
  have c1 := hO.cell (k := 1) rfl
  simp [results, Tryz.results23, go_sem, t2, t3, c0, c1]

theorem vrow_far {w : World} {B : Nat} {T : TypeId} {vals : List Value} (h : VRow w B T vals) {a : Addr} (ha : B ≠ a.block) (v : Value) : VRow (w.setCell a v) B T vals := by
  unfold VRow; rw [heap_setCell_other w a B v ha]; exact h
set_option maxRecDepth 100000 in
set_option maxHeartbeats 2000000 in
theorem Oof_no (ra ba oa : Option Addr) (rn rc bn bc on oc : Nat) (m : Mkt) (w : World) (hm : MktAt w ra ba oa rn rc bn bc on oc m) (hc : mcheck m = false) :
    Calls Tryz.prog 23 #[.agg #[.slice ra rn rc, .slice ba bn bc, .slice oa on oc]] w fun e w' => e = .returned (.tuple #[.agg #[.slice none 0 0, .slice none 0 0], .int .i64 1]) ∧ Below w.heap.size w w' := by
  obtain ⟨hv1, hv2, hb0⟩ := oc0_at w ra ba oa rn rc bn bc on oc
  have HG := Lib.hid (Gains_no ra ba oa rn rc bn bc on oc m _ (hm.below hb0 (Nat.le_refl _)) hc)
  have HV := Lib.hid (And.intro hv2 hb0); clear hv1 hv2 hb0 hm hc
  go_enter Tryz.func23, Tryz.ntmps23
  go_wp2_with fail
  refine HG.out.mono ?_
  rintro e w1 ⟨rfl, hb1⟩
  have hv1 := HV.out.1.below hb1 HV.out.1.lt
  have k0 := hv1.cell (k := 0) rfl
  have k1 := hv1.cell (k := 1) rfl
  have f0 := hv1.frozen 0
  have f1 := hv1.frozen 1
  have hv2 := hv1.set 0 (.slice none 0 0)
  have g1 := hv2.cell (k := 1) rfl
  have h1 := hv2.frozen 1
  have HB1 := Lib.hid (And.intro (HV.out.2.trans (hb1.mono HV.out.2.size)) ((hv2.set 1 (.slice none 0 0)))); clear hb1 hv1 hv2
  go_wp2_with fail
  exact bodyPost_ret (oof_results rfl rfl _ HB1.out.2) rfl ⟨rfl, (HB1.out.1.setCell (p := ⟨w.heap.size + 1, 0, none⟩) (by simp) _).setCell (p := ⟨w.heap.size + 1, 1, none⟩) (by simp) _⟩

set_option maxRecDepth 100000 in
set_option maxHeartbeats 2000000 in
theorem Oof_yes (ra ba oa : Option Addr) (rn rc bn bc on oc : Nat) (m : Mkt) (w : World) (hm : MktAt w ra ba oa rn rc bn bc on oc m) (hc : mcheck m = true) :
    Calls Tryz.prog 23 #[.agg #[.slice ra rn rc, .slice ba bn bc, .slice oa on oc]] w fun e w' => ∃ ha pa hcp, e = .returned (.tuple #[.agg #[.slice ha bn hcp, .slice pa rn rn], .int .i64 0]) ∧ OutAt w' ha pa bn hcp rn rn (outM m) ∧ Below w.heap.size w w' := by
  obtain ⟨hv1, hv2, hb0⟩ := oc0_at w ra ba oa rn rc bn bc on oc
  have hok := mcheck_ok hc
  have hrl := hm.res.len
  have hbl := hm.bids.len
  have HG := Lib.hid (Gains_yes ra ba oa rn rc bn bc on oc m _ (hm.below hb0 (Nat.le_refl _)) hc)
  have HV := Lib.hid (And.intro hv1 (And.intro hv2 hb0)); clear hv1 hv2 hb0
  have HM := Lib.hid (And.intro hm (And.intro hc hok)); clear hm hc hok
  have HRL := Lib.hid hrl; clear hrl
  have HBL := Lib.hid hbl; clear hbl
  go_enter Tryz.func23, Tryz.ntmps23
  go_wp2_with fail
  refine HG.out.mono ?_
  rintro e w1 ⟨ga, rfl, hg, hb1⟩
  have hm1 := HV.out.1.below hb1 HV.out.1.lt
  have ho1 := HV.out.2.1.below hb1 HV.out.2.1.lt
  have hB1 := HV.out.2.2.trans (hb1.mono HV.out.2.2.size)
  have k0 := hm1.cell (k := 0) rfl
  have k2 := hm1.cell (k := 2) rfl
  have hF := FirstM HM.out.2.2 ga oa bn bn on oc w1 hg (HM.out.1.ord.below hB1 (Nat.le_refl _))
  rw [HRL.out] at hF
  have HF := Lib.hid hF; clear hF hg hb1
  have H1 := Lib.hid (And.intro hm1 (And.intro ho1 hB1)); clear hm1 ho1 hB1 HG
  go_wp2_with fail
  refine HF.out.mono ?_
  rintro e w2 ⟨ha, hn, hcp, rfl, hi2, hb2⟩
  have hhn : hn = bn := by rw [← hi2.len, hasM_length]; exact HBL.out
  subst hhn
  have hm2 := H1.out.1.below hb2 H1.out.1.lt
  have ho2 := H1.out.2.1.below hb2 H1.out.2.1.lt
  have hB2 := H1.out.2.2.trans (hb2.mono H1.out.2.2.size)
  have p0 := ho2.cell (k := 0) rfl
  have fp0 := ho2.frozen 0
  have ho3 := ho2.set 0 (.slice ha hn hcp)
  have hm3 : VRow (w2.setCell ⟨w.heap.size + 1, 0, none⟩ (.slice ha hn hcp)) w.heap.size 28 [.slice ra rn rc, .slice ba hn bc, .slice oa on oc] := vrow_far hm2 (by show w.heap.size ≠ w.heap.size + 1; omega) _
  have hB3 := hB2.setCell (p := ⟨w.heap.size + 1, 0, none⟩) (by simp) (.slice ha hn hcp)
  have hi3 : Ints (w2.setCell ⟨w.heap.size + 1, 0, none⟩ (.slice ha hn hcp)) ha hn hcp (hasM m) :=
    hi2.far (hi2.apartV ho2 (fun v hv => ⟨none, 0, 0, by simpa using hv⟩)) _
  have q0 := hm3.cell (k := 0) rfl
  have q1 := hm3.cell (k := 1) rfl
  have q2 := hm3.cell (k := 2) rfl
  have H2 := Lib.hid (And.intro hm3 (And.intro ho3 (And.intro hB3 hi3))); clear hm2 ho2 hB2 hm3 ho3 hB3 hi3 hi2 hb2 k0 k2 H1 HF
  have HL := Lib.hid (Least_yes ra ba oa rn rc hn bc on oc m _ (HM.out.1.below H2.out.2.2.1 (Nat.le_refl _)) HM.out.2.1)
  go_wp2_with fail
  refine HL.out.mono ?_
  rintro e w4 ⟨pa, pn, rfl, hi4, hb4⟩
  have hpn : pn = rn := by rw [← hi4.len, (leastM_on HM.out.2.2).len]; exact HRL.out
  subst hpn
  have ho4 := H2.out.2.1.below hb4 H2.out.2.1.lt
  have hB4 := H2.out.2.2.1.trans (hb4.mono H2.out.2.2.1.size)
  have hi5 := H2.out.2.2.2.below hb4 (Nat.le_refl _)
  have hs4 : ∀ v, v ∈ ([.slice none 0 0, .slice none 0 0] : List Value).set 0 (.slice ha hn hcp) → ∃ a n c, v = .slice a n c := fun v hv => by
    simp at hv
    rcases hv with rfl | rfl
    · exact ⟨_, _, _, rfl⟩
    · exact ⟨_, _, _, rfl⟩
  have far1 := hi5.apartV ho4 hs4
  have far2 := hi4.apartV ho4 hs4
  have p1 := ho4.cell (k := 1) rfl
  have fp1 := ho4.frozen 1
  have ho5 := ho4.set 1 (.slice pa pn pn)
  have r0 := ho5.cell (k := 0) rfl
  have r1 := ho5.cell (k := 1) rfl
  have fr0 := ho5.frozen 0
  have ho6 := ho5.set 0 (.slice ha hn hcp)
  have fr1 := ho6.frozen 1
  have r2 := ho6.cell (k := 1) rfl
  have ho7 := ho6.set 1 (.slice pa pn pn)
  have H4 := Lib.hid (And.intro ho7 (And.intro hB4 (And.intro hi5 (And.intro hi4 (And.intro far1 far2))))); clear ho4 ho5 ho6 ho7 hB4 hi5 hi4 far1 far2 hb4 hs4 q0 q1 q2 p0 fp0
  go_wp2_with fail
  refine bodyPost_ret (oof_results rfl rfl _ H4.out.1) rfl ⟨ha, pa, hcp, rfl, ⟨?_, ?_⟩, ?_⟩
  · exact ((H4.out.2.2.1.far H4.out.2.2.2.2.1 _).far H4.out.2.2.2.2.1 _).far H4.out.2.2.2.2.1 _
  · exact ((H4.out.2.2.2.1.far H4.out.2.2.2.2.2 _).far H4.out.2.2.2.2.2 _).far H4.out.2.2.2.2.2 _
  · exact ((H4.out.2.1.setCell (p := ⟨w.heap.size + 1, 1, none⟩) (by simp) _).setCell (p := ⟨w.heap.size + 1, 0, none⟩) (by simp) _).setCell (p := ⟨w.heap.size + 1, 1, none⟩) (by simp) _
end Go.Proofs.YtbnjeegicbffeaaGreat

/- The boxes of a market and of an outcome, wherever they lie; what comes of a market fits it. -/
namespace Go.Proofs.YtbnjeegicbffeaaGreat
open Go.RowKit Sale

structure MoAt (w : World) (Bm Bo : Nat) (ra ba oa ha pa : Option Addr) (rn rc bn bc on oc hn hc pn pc : Nat) (m : Mkt) (o : Outc) (wr : World) : Prop where
  v1 : VRow wr Bm 28 [.slice ra rn rc, .slice ba bn bc, .slice oa on oc]
  v2 : VRow wr Bo 30 [.slice ha hn hc, .slice pa pn pc]
  mkt : MktAt wr ra ba oa rn rc bn bc on oc m
  out : OutAt wr ha pa hn hc pn pc o
  below : Below w.heap.size w wr
theorem MoAt.step {w : World} {Bm Bo : Nat} {ra ba oa ha pa : Option Addr} {rn rc bn bc on oc hn hc pn pc : Nat} {m : Mkt} {o : Outc} {wr wr' : World} (h : MoAt w Bm Bo ra ba oa ha pa rn rc bn bc on oc hn hc pn pc m o wr) (hb : Below wr.heap.size wr wr') : MoAt w Bm Bo ra ba oa ha pa rn rc bn bc on oc hn hc pn pc m o wr' :=
  ⟨h.v1.step hb, h.v2.step hb, h.mkt.below hb (Nat.le_refl _), h.out.below hb (Nat.le_refl _), h.below.trans (hb.mono h.below.size)⟩
/-- the outcome laid into a box of its own -/
theorem MoAt.box {w w1 : World} {Bm : Nat} {ra ba oa ha pa : Option Addr} {rn rc bn bc on oc hn hc pn pc : Nat} {m : Mkt} {o : Outc} (hv : VRow w1 Bm 28 [.slice ra rn rc, .slice ba bn bc, .slice oa on oc]) (hm : MktAt w1 ra ba oa rn rc bn bc on oc m) (ho : OutAt w1 ha pa hn hc pn pc o) (hb : Below w.heap.size w w1) :
    MoAt w Bm w1.heap.size ra ba oa ha pa rn rc bn bc on oc hn hc pn pc m o (w1.alloc (.cells #[.slice ha hn hc, .slice pa pn pc] 30)) := by
  have h1 : Below w1.heap.size w1 (w1.alloc (.cells #[.slice ha hn hc, .slice pa pn pc] 30)) := (Below.refl _ _).alloc (Nat.le_refl _) _
  exact ⟨hv.step h1, VRow.new w1 30 [.slice ha hn hc, .slice pa pn pc], hm.below h1 (Nat.le_refl _), ho.below h1 (Nat.le_refl _), hb.trans (h1.mono hb.size)⟩

theorem ofitsB_of {m : Mkt} {o : Outc} (h : FitOk m o) : ofitsB m o = true := by
  unfold ofitsB ofitTo
  rw [h.chk, decide_eq_true h.hlen, decide_eq_true h.plen, List.take_length]
  simp only [Bool.true_and, List.all_eq_true, Bool.and_eq_true, decide_eq_true_eq]
  exact fun x hx => by have := h.item x hx; have := h.plen; omega
theorem allB_out {m : Mkt} (hc : mcheck m = true) : allB (woodOf m (outM m)) = true := allB_low ((mcheck_ok hc).outEven hc) rfl
end Go.Proofs.YtbnjeegicbffeaaGreat
