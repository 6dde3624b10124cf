/- Walks: forests: would a bidder as well have an item? Walks: forests.Check. The reading of an outcome, and of reasons: a law's arguments. -/
import Derived.Test.YtbnjeegicbffeaaGreatG22
import Derived.Test.YtbnjeegicbffeaaGreatG29
import Derived.Deep.SlicePairs
/- Walks: forests: would a bidder as well have an item? -/
namespace Go.Proofs.YtbnjeegicbffeaaGreat
open Go.RowKit Sale

theorem by_kept (w0 : World) (y : Kept (Below w0.heap.size w0)) (ra ba oa ha pa : Option Addr) (rn rc bn bc on oc hn hc pn pc : Nat) (m : Mkt) (o : Outc) (hm : MktAt w0 ra ba oa rn rc bn bc on oc m) (ho : OutAt w0 ha pa hn hc pn pc o) (hf : FitOk m o) (i : Nat) (b : List Int) (hb : m.bids[i]? = some b) (hb0 : 0 < b.length)
    (x : Int) (hx1 : -1 ≤ x) (hx2 : x < (rn : Int)) (V : Int) (hV : byV m o i x = V) :
    Calls Tryz.prog 84 #[.agg #[.slice ra rn rc, .slice ba bn bc, .slice oa on oc, .slice ha hn hc, .slice pa pn pc], .int .i64 i, .int .i64 x] y.w fun e w' => e = .returned (.int .i64 V) ∧ ∃ z : Kept (Below w0.heap.size w0), w' = z.w := by
  subst hV
  exact Kept.call ((by_any ra ba oa ha pa rn rc bn bc on oc hn hc pn pc m o y.w (hm.below y.h (Nat.le_refl _)) (ho.below y.h (Nat.le_refl _)) hf i b hb hb0 x hx1 hx2).mono fun _ _ ⟨h1, h2⟩ => ⟨h1, y.h.trans (h2.mono y.h.size)⟩)

set_option maxRecDepth 100000 in
set_option maxHeartbeats 2000000 in
theorem well_any (ra ba oa ha pa : Option Addr) (rn rc bn bc on oc hn hc pn pc : Nat) (m : Mkt) (o : Outc) (w : World) (hm : MktAt w ra ba oa rn rc bn bc on oc m) (ho : OutAt w ha pa hn hc pn pc o) (hf : FitOk m o) (i : Nat) (hi : i < bn) (k : Nat) (hk : k < rn) :
    Calls Tryz.prog 69 #[.agg #[.slice ra rn rc, .slice ba bn bc, .slice oa on oc, .slice ha hn hc, .slice pa pn pc], .int .i64 i, .int .i64 k] w fun e w' => e = .returned (.bool (wellB m o i k)) ∧ Below w.heap.size w w' := by
  have HB0 := Lib.hid (vw_start w ra ba oa ha pa rn rc bn bc on oc hn hc pn pc)
  obtain ⟨c0, c1, c2, c3, c4, hs, hbw⟩ := vw_kept HB0.out
  have hm1 := hm.below hbw (Nat.le_refl _)
  have ho1 := ho.below hbw (Nat.le_refl _)
  have HBW := Lib.hid hbw; clear hbw
  have hhn : hn = bn := by rw [← ho.has.len, ← hm.bids.len]; exact hf.hlen
  subst hhn
  obtain ⟨b, hb⟩ := hm1.bids.get hi
  obtain ⟨x, hx, _⟩ := ho1.has.get hi
  obtain ⟨bb, bo, rfl⟩ := hm1.bids.addr (by omega)
  obtain ⟨hb', ho', rfl⟩ := ho1.has.addr (by omega)
  obtain ⟨la, ln, lc, hcl, hli⟩ := hm1.bids.cell bb bo rfl i b hb
  have cx := ho1.has.cell hb' ho' rfl i x hx
  have hll := hli.len
  have hxb := hf.item x (List.mem_of_getElem? hx)
  rw [hm.res.len] at hxb
  have hv : wellB m o i k = (decide (0 < ln) && ((x != (k : Int)) && (byV m o i x == byV m o i k))) := by
    unfold wellB
    rw [bids_at hb, getD_at hx, hll]
  obtain ⟨bf, hbf⟩ : ∃ bf, bf = wellB m o i k := ⟨_, rfl⟩
  rw [← hbf]
  rw [hv] at hbf
  have HBF := Lib.hid hbf; clear hbf hv
  have i1 : (i : Int) < (hn : Int) := by omega
  have HF := Lib.hid hf; clear hf
  have HBI := Lib.hid hb; clear hb
  have HX := Lib.hid hx; clear hx hli
  obtain ⟨w1, hw1⟩ : ∃ w1, w1 = vw w ra (some ⟨bb, bo, none⟩) oa (some ⟨hb', ho', none⟩) pa rn rc hn bc on oc hn hc pn pc := ⟨_, rfl⟩
  rw [← hw1] at c0 c1 c2 c3 c4 hcl cx hm1 ho1 HBW
  have HM1 := Lib.hid hm1; clear hm1
  have HO1 := Lib.hid ho1; clear ho1
  have hw1' : w.alloc (.cells #[.slice ra rn rc, .slice (some ⟨bb, bo, none⟩) hn bc, .slice oa on oc, .slice (some ⟨hb', ho', none⟩) hn hc, .slice pa pn pc] 112) = w1 := hw1.symm
  clear hw1 HB0 hm ho
  go_enter Tryz.func69, Tryz.ntmps69
  go_upto_region 2 with fail
  try rw [hw1']
  clear hw1'
  have hbd : Below w1.heap.size w1 w1.drew := (Below.refl _ _).drew
  have hne' : Nonempty (Kept (Below w1.heap.size w1)) := ⟨⟨_, hbd⟩⟩
  have k0 : ∀ z : Kept (Below w1.heap.size w1), z.w.cell? ⟨w.heap.size, 0, none⟩ = some (.slice ra rn rc) := fun z => cell_step z.h c0
  have k1 : ∀ z : Kept (Below w1.heap.size w1), z.w.cell? ⟨w.heap.size, 1, none⟩ = some (.slice (some ⟨bb, bo, none⟩) hn bc) := fun z => cell_step z.h c1
  have k2 : ∀ z : Kept (Below w1.heap.size w1), z.w.cell? ⟨w.heap.size, 2, none⟩ = some (.slice oa on oc) := fun z => cell_step z.h c2
  have k3 : ∀ z : Kept (Below w1.heap.size w1), z.w.cell? ⟨w.heap.size, 3, none⟩ = some (.slice (some ⟨hb', ho', none⟩) hn hc) := fun z => cell_step z.h c3
  have k4 : ∀ z : Kept (Below w1.heap.size w1), z.w.cell? ⟨w.heap.size, 4, none⟩ = some (.slice pa pn pc) := fun z => cell_step z.h c4
  have k5 : ∀ z : Kept (Below w1.heap.size w1), z.w.cell? ⟨bb, bo + i, none⟩ = some (.slice la ln lc) := fun z => cell_step z.h hcl
  clear c0 c1 c2 c3 c4 hcl cx
  by_cases h0 : 0 < ln
  · have e1 : decide (0 < (ln : Int)) = true := by simp; omega
    by_cases h1 : x = (k : Int)
    · subst h1
      have h0' : decide (0 < ln) = true := by simpa using h0
      refine wp_region_kept (Below w1.heap.size w1) (by kernel_rfl) (by kernel_rfl) hbd ?_
      repeat (go_big_quiet_step (fail))
      refine wpQuiet_nil ?_
      intro _ hw'
      obtain ⟨⟨w4, hb4⟩, rfl⟩ := hw'
      clear k0 k1 k2 k3 k4 k5 hne'
      go_wp2_with fail
      go_ret
      exact ⟨by rw [HBF.out]; simp, HBW.out.trans (hb4.mono HBW.out.size)⟩
    · have e2 : (x != (k : Int)) = true := by simpa using h1
      obtain ⟨u, hu⟩ : ∃ u, byV m o i x = u := ⟨_, rfl⟩
      obtain ⟨v, hv⟩ : ∃ v, byV m o i k = v := ⟨_, rfl⟩
      have HU := Lib.hid hu
      have HV := Lib.hid hv
      rw [hu, hv] at HBF
      clear hu hv
      have h0b : 0 < b.length := by omega
      have hA := fun z : Kept (Below w1.heap.size w1) => by_kept w1 z ra (some ⟨bb, bo, none⟩) oa (some ⟨hb', ho', none⟩) pa rn rc hn bc on oc hn hc pn pc m o HM1.out HO1.out HF.out i b HBI.out h0b x hxb.1 hxb.2 u HU.out
      have hB := fun z : Kept (Below w1.heap.size w1) => by_kept w1 z ra (some ⟨bb, bo, none⟩) oa (some ⟨hb', ho', none⟩) pa rn rc hn bc on oc hn hc pn pc m o HM1.out HO1.out HF.out i b HBI.out h0b (k : Int) (by omega) (by omega) v HV.out
      have HA := Lib.hid hA; clear hA
      have HB := Lib.hid hB; clear hB
      refine wp_region_kept (Below w1.heap.size w1) (by kernel_rfl) (by kernel_rfl) hbd ?_
      repeat (go_big_quiet_step ((go_at_call 84; first | with_reducible exact HA.out _ | with_reducible exact HB.out _)))
      refine wpQuiet_nil ?_
      intro _ hw'
      obtain ⟨⟨w4, hb4⟩, rfl⟩ := hw'
      clear k0 k1 k2 k3 k4 k5 hne'
      go_wp2_with fail
      go_ret
      exact ⟨by rw [HBF.out, e2, decide_eq_true h0]; simp, HBW.out.trans (hb4.mono HBW.out.size)⟩
  · obtain rfl : ln = 0 := by omega
    refine wp_region_kept (Below w1.heap.size w1) (by kernel_rfl) (by kernel_rfl) hbd ?_
    repeat (go_big_quiet_step (fail))
    refine wpQuiet_nil ?_
    intro _ hw'
    obtain ⟨⟨w4, hb4⟩, rfl⟩ := hw'
    clear k0 k1 k2 k3 k4 k5 hne'
    go_wp2_with fail
    go_ret
    exact ⟨by rw [HBF.out]; simp, HBW.out.trans (hb4.mono HBW.out.size)⟩
end Go.Proofs.YtbnjeegicbffeaaGreat

/- Walks: forests.Check. -/
namespace Go.Proofs.YtbnjeegicbffeaaGreat
open Go.RowKit Sale

/-- reasons in memory: pairs of a bidder and a rank -/
structure Whys (w : World) (a : Option Addr) (n c : Nat) (l : List (Int × Int)) : Prop where
  len : l.length = n
  cap : n ≤ c
  big : n ≤ 4611686018427387904
  addr : 0 < n → ∃ b o, a = some ⟨b, o, none⟩
  cell : ∀ b o, a = some ⟨b, o, none⟩ → ∀ (k : Nat) (p : Int × Int), l[k]? = some p → w.cell? ⟨b, o + k * 2, none⟩ = some (.int .i64 p.1) ∧ w.cell? ⟨b, o + k * 2 + 1, none⟩ = some (.int .i64 p.2)
  bd : ∀ p, p ∈ l → (-9223372036854775808 ≤ p.1 ∧ p.1 ≤ 9223372036854775807) ∧ -9223372036854775808 ≤ p.2 ∧ p.2 ≤ 9223372036854775807
theorem Whys.below {w w' : World} {a : Option Addr} {n c : Nat} {l : List (Int × Int)} (h : Whys w a n c l) {B : Nat} (hb : Below B w w') (hB : w.heap.size ≤ B) : Whys w' a n c l :=
  ⟨h.len, h.cap, h.big, h.addr, fun b o e k p hp => by
    have h1 := h.cell b o e k p hp
    have h2 := hb.mono hB
    exact ⟨cell_step h2 h1.1, cell_step h2 h1.2⟩, h.bd⟩
theorem Whys.get {w : World} {a : Option Addr} {n c : Nat} {l : List (Int × Int)} (h : Whys w a n c l) {k : Nat} (hk : k < n) : ∃ p, l[k]? = some p := ⟨_, List.getElem?_eq_getElem (by rw [h.len]; exact hk)⟩

/-- the rank that it must have -/
def rankOf (o : Outc) (l : List (Int × Int)) (b : Int) : Int := if o.has.getD b.toNat (-1) = -1 then 1 else wrap64 (1 + (l.getD (o.has.getD b.toNat (-1)).toNat (0, 0)).2)
def okWhy (m : Mkt) (o : Outc) (l : List (Int × Int)) (j : Nat) : Bool :=
  if resB m o j = true then (l.getD j (0, 0)) == (-1, 0)
  else (decide (0 ≤ (l.getD j (0, 0)).1) && decide ((l.getD j (0, 0)).1 < (o.has.length : Int))) && (wellB m o (l.getD j (0, 0)).1.toNat j && (l.getD j (0, 0)).2 == rankOf o l (l.getD j (0, 0)).1)
def whyTo (m : Mkt) (o : Outc) (l : List (Int × Int)) (k : Nat) : Bool := (List.range k).all (okWhy m o l)
def checkB (m : Mkt) (o : Outc) (l : List (Int × Int)) : Bool := ofitsB m o && (decide (l.length = o.prices.length) && whyTo m o l l.length)
theorem whyTo_succ (m : Mkt) (o : Outc) (l : List (Int × Int)) (k : Nat) : whyTo m o l (k + 1) = (whyTo m o l k && okWhy m o l k) := by unfold whyTo; rw [List.range_succ, List.all_append]; simp
theorem whyTo_no {m : Mkt} {o : Outc} {l : List (Int × Int)} {k n : Nat} (h : okWhy m o l k = false) (hk : k < n) : whyTo m o l n = false := by
  unfold whyTo; rw [List.all_eq_false]; exact ⟨k, List.mem_range.2 hk, by simp [h]⟩
theorem whyAt {l : List (Int × Int)} {k : Nat} {p : Int × Int} (h : l[k]? = some p) : l.getD k (0, 0) = p := by rw [List.getD_eq_getElem?_getD, h]; rfl

/-- the world behind the copies of a market and an outcome, and the view of them -/
structure VAt (w : World) (B1 B2 B3 : Nat) (ra ba oa ha pa : Option Addr) (rn rc bn bc on oc hn hc pn pc : Nat) (m : Mkt) (o : Outc) (wr : World) : Prop where
  v1 : VRow wr B1 28 [.slice ra rn rc, .slice ba bn bc, .slice oa on oc]
  v2 : VRow wr B2 30 [.slice ha hn hc, .slice pa pn pc]
  v3 : VRow wr B3 112 [.slice ra rn rc, .slice ba bn bc, .slice oa on oc, .slice ha hn hc, .slice pa pn pc]
  mkt : MktAt wr ra ba oa rn rc bn bc on oc m
  out : OutAt wr ha pa hn hc pn pc o
  below : Below w.heap.size w wr
theorem VRow.stp {w w' : World} {B : Nat} {T : TypeId} {vals : List Value} (h : VRow w B T vals) (hb : Below w.heap.size w w') : VRow w' B T vals := h.below hb h.lt
theorem VAt.step {w : World} {B1 B2 B3 : Nat} {ra ba oa ha pa : Option Addr} {rn rc bn bc on oc hn hc pn pc : Nat} {m : Mkt} {o : Outc} {wr wr' : World} (h : VAt w B1 B2 B3 ra ba oa ha pa rn rc bn bc on oc hn hc pn pc m o wr) (hb : Below wr.heap.size wr wr') : VAt w B1 B2 B3 ra ba oa ha pa rn rc bn bc on oc hn hc pn pc m o wr' :=
  ⟨h.v1.stp hb, h.v2.stp hb, h.v3.stp hb, h.mkt.below hb (Nat.le_refl _), h.out.below hb (Nat.le_refl _), h.below.trans (hb.mono h.below.size)⟩
theorem VAt.new (w : World) {ra ba oa ha pa : Option Addr} {rn rc bn bc on oc hn hc pn pc : Nat} {m : Mkt} {o : Outc} (hm : MktAt w ra ba oa rn rc bn bc on oc m) (ho : OutAt w ha pa hn hc pn pc o) :
    VAt w w.heap.size (w.heap.size + 1) (w.heap.size + 1 + 1) ra ba oa ha pa rn rc bn bc on oc hn hc pn pc m o (((w.alloc (.cells #[.slice ra rn rc, .slice ba bn bc, .slice oa on oc] 28)).alloc (.cells #[.slice ha hn hc, .slice pa pn pc] 30)).alloc (.cells #[.slice ra rn rc, .slice ba bn bc, .slice oa on oc, .slice ha hn hc, .slice pa pn pc] 112)) := by
  have hb : Below w.heap.size w (((w.alloc (.cells #[.slice ra rn rc, .slice ba bn bc, .slice oa on oc] 28)).alloc (.cells #[.slice ha hn hc, .slice pa pn pc] 30)).alloc (.cells #[.slice ra rn rc, .slice ba bn bc, .slice oa on oc, .slice ha hn hc, .slice pa pn pc] 112)) :=
    (((Below.refl _ w).alloc (Nat.le_refl _) _).alloc (by simp) _).alloc (by simp; omega) _
  have h1 := VRow.new w 28 [.slice ra rn rc, .slice ba bn bc, .slice oa on oc]
  have h2 := VRow.new (w.alloc (.cells #[.slice ra rn rc, .slice ba bn bc, .slice oa on oc] 28)) 30 [.slice ha hn hc, .slice pa pn pc]
  have h3 := VRow.new ((w.alloc (.cells #[.slice ra rn rc, .slice ba bn bc, .slice oa on oc] 28)).alloc (.cells #[.slice ha hn hc, .slice pa pn pc] 30)) 112 [.slice ra rn rc, .slice ba bn bc, .slice oa on oc, .slice ha hn hc, .slice pa pn pc]
  rw [show (w.alloc (.cells #[.slice ra rn rc, .slice ba bn bc, .slice oa on oc] 28)).heap.size = w.heap.size + 1 by simp] at h2
  rw [show ((w.alloc (.cells #[.slice ra rn rc, .slice ba bn bc, .slice oa on oc] 28)).alloc (.cells #[.slice ha hn hc, .slice pa pn pc] 30)).heap.size = w.heap.size + 1 + 1 by simp] at h3
  exact ⟨(h1.alloc _).alloc _, h2.alloc _, h3, hm.below hb (Nat.le_refl _), ho.below hb (Nat.le_refl _), hb⟩

set_option maxRecDepth 100000 in
set_option maxHeartbeats 4000000 in
theorem fcheck_any (ra ba oa ha pa la : Option Addr) (rn rc bn bc on oc hn hc pn pc ln lc : Nat) (m : Mkt) (o : Outc) (l : List (Int × Int)) (w : World) (hm : MktAt w ra ba oa rn rc bn bc on oc m) (ho : OutAt w ha pa hn hc pn pc o) (hl : Whys w la ln lc l) :
    Calls Tryz.prog 39 #[.agg #[.slice ra rn rc, .slice ba bn bc, .slice oa on oc], .agg #[.slice ha hn hc, .slice pa pn pc], .slice la ln lc] w fun e w' => e = .returned (.bool (checkB m o l)) ∧ Below w.heap.size w w' := by
  have HV0 := Lib.hid (VAt.new w hm ho)
  have hlb := hl.len
  have hhl := ho.has.len
  have hpl := ho.prices.len
  obtain ⟨bf, hbf⟩ : ∃ bf, bf = checkB m o l := ⟨_, rfl⟩
  rw [← hbf]
  unfold checkB at hbf
  rw [hlb, hpl] at hbf
  have HBF := Lib.hid hbf; clear hbf
  have HL := Lib.hid hl; clear hl
  clear hm ho
  go_enter Tryz.func39, Tryz.ntmps39
  go_wp2_with fail
  refine (ofits_any ra ba oa ha pa rn rc bn bc on oc hn hc pn pc m o _ HV0.out.mkt HV0.out.out).mono ?_
  rintro e w1 ⟨rfl, hb⟩
  have HV1 := Lib.hid (HV0.out.step hb); clear hb HV0
  have HL1 := Lib.hid (HL.out.below HV1.out.below (Nat.le_refl _)); clear HL
  obtain ⟨fb, hfb⟩ : ∃ fb, fb = ofitsB m o := ⟨_, rfl⟩
  rw [← hfb] at HBF ⊢
  have c1 := HV1.out.v2.cell (k := 1) rfl
  obtain ⟨B1, hB1⟩ : ∃ B1, B1 = w.heap.size := ⟨_, rfl⟩
  obtain ⟨B2, hB2⟩ : ∃ B2, B2 = w.heap.size + 1 := ⟨_, rfl⟩
  obtain ⟨B3, hB3⟩ : ∃ B3, B3 = w.heap.size + 1 + 1 := ⟨_, rfl⟩
  rw [← hB3, ← hB2] at HV1 ⊢
  rw [← hB2] at c1
  rw [← hB1]
  have HV1 := Lib.hid (show VAt w B1 B2 B3 ra ba oa ha pa rn rc bn bc on oc hn hc pn pc m o w1 by rw [hB1]; exact HV1.out)
  clear hB1 hB2 hB3
  have HFB := Lib.hid hfb; clear hfb
  cases fb with
  | false =>
    go_wp2_with fail
    go_ret
    exact ⟨by rw [HBF.out]; rfl, HV1.out.below⟩
  | true =>
    have hfit := ofitsB_ok HFB.out.symm
    clear HFB
    by_cases h1 : ln = pn
    · subst h1
      have hrn : ln = rn := by rw [← HV1.out.mkt.res.len, ← hfit.plen, hpl]
      have hhn : hn = bn := by rw [← HV1.out.mkt.bids.len, ← hfit.hlen, hhl]
      have hn8 := hfit.mok.n8
      have hm8 := hfit.mok.m8
      rw [HV1.out.mkt.res.len] at hn8
      rw [HV1.out.mkt.bids.len] at hm8
      have HFIT := Lib.hid hfit; clear hfit
      subst hrn
      subst hhn
      go_wp2_with fail
      clear c1
      go_loopg [28] ln (fun g' s28 wr => ∃ k : Nat, k + g' = ln ∧ s28 = .int .i64 k ∧ whyTo m o l k = true ∧ VAt w B1 B2 B3 ra ba oa ha pa ln rc hn bc on oc hn hc ln pc m o wr ∧ Whys wr la ln lc l)
      case atStart => exact ⟨0, by omega, rfl, rfl, HV1.out, HL1.out⟩
      case round =>
        obtain ⟨k, hk, rfl, hwt, hV, hL⟩ := hrel
        have HKK := Lib.hid hk; clear hk
        have HWT := Lib.hid hwt; clear hwt
        by_cases hlt : k < ln
        · obtain ⟨p, hp⟩ := hL.get hlt
          obtain ⟨lb, lo, rfl⟩ := hL.addr (by omega)
          obtain ⟨cp1, cp2⟩ := hL.cell lb lo rfl k p hp
          have q0 := hV.v3.cell (k := 0) rfl
          have q1 := hV.v3.cell (k := 1) rfl
          have q2 := hV.v3.cell (k := 2) rfl
          have q3 := hV.v3.cell (k := 3) rfl
          have q4 := hV.v3.cell (k := 4) rfl
          have i1 : (k : Int) < (ln : Int) := by omega
          have hsz3 := hV.v3.lt
          have HV := Lib.hid hV; clear hV
          have HL := Lib.hid hL; clear hL
          have HP := Lib.hid hp; clear hp
          obtain ⟨px, py⟩ := p
          go_wp2_with fail
          have HVa := Lib.hid (HV.out.step ((Below.refl _ _).alloc (Nat.le_refl _) (.cells #[.int .i64 px, .int .i64 py] 75)))
          have hW := VRow.new wr 75 [.int .i64 px, .int .i64 py]
          have HLa := Lib.hid (HL.out.below ((Below.refl _ _).alloc (Nat.le_refl _) (.cells #[.int .i64 px, .int .i64 py] 75)) (Nat.le_refl _))
          have HWa := Lib.hid hW; clear hW HV HL q0 q1 q2 q3 q4 cp1 cp2
          refine (reserved_any ra ba oa ha pa ln rc hn bc on oc hn hc ln pc m o _ HVa.out.mkt HVa.out.out HFIT.out k hlt).mono ?_
          rintro e w2 ⟨rfl, hb2⟩
          have HV2 := Lib.hid (HVa.out.step hb2); clear HVa
          have HL2 := Lib.hid (HLa.out.below hb2 (Nat.le_refl _)); clear HLa
          have hW2 := HWa.out.stp hb2; clear hb2 HWa
          have d0 := hW2.cell (k := 0) rfl
          have d1 := hW2.cell (k := 1) rfl
          have hszW := hW2.lt
          have HW2 := Lib.hid hW2; clear hW2
          have q0 := HV2.out.v3.cell (k := 0) rfl
          have q1 := HV2.out.v3.cell (k := 1) rfl
          have q2 := HV2.out.v3.cell (k := 2) rfl
          have q3 := HV2.out.v3.cell (k := 3) rfl
          have q4 := HV2.out.v3.cell (k := 4) rfl
          have p0 := HV2.out.v2.cell (k := 0) rfl
          have hno := fun h : okWhy m o l k = false => whyTo_no h (n := ln) hlt
          have hok : okWhy m o l k = if resB m o k = true then (px, py) == (-1, 0) else (decide (0 ≤ px) && decide (px < (hn : Int))) && (wellB m o px.toNat k && py == rankOf o l px) := by
            unfold okWhy; rw [whyAt HP.out, hhl]
          have HNO := Lib.hid hno; clear hno
          have hsucc := whyTo_succ m o l k
          rw [HWT.out, Bool.true_and] at hsucc
          have HSUCC := Lib.hid hsucc; clear hsucc
          obtain ⟨rb, hrb⟩ : ∃ rb, rb = resB m o k := ⟨_, rfl⟩
          rw [← hrb] at hok ⊢
          clear hrb
          cases rb with
          | true =>
            rw [if_pos rfl] at hok
            have HOK := Lib.hid hok; clear hok
            by_cases hpe : px = -1 ∧ py = 0
            · obtain ⟨rfl, rfl⟩ := hpe
              go_wp2_with fail
              go_roundg (gk - 1)
              case measure => have := HKK.out; omega
              case rel => exact ⟨k + 1, by have := HKK.out; omega, by go_num, by rw [HSUCC.out, HOK.out]; rfl, HV2.out, HL2.out⟩
            · have hne : ((px, py) == ((-1, 0) : Int × Int)) = false := by simpa using hpe
              rw [hne] at HOK
              clear hne
              by_cases hp1 : px = -1
              · have hp2 : ¬ py = 0 := fun e => hpe ⟨hp1, e⟩
                subst hp1
                clear hpe
                go_wp2_with fail
                go_ret
                exact ⟨by rw [HBF.out, HNO.out HOK.out]; simp, HV2.out.below⟩
              · clear hpe
                go_wp2_with fail
                go_ret
                exact ⟨by rw [HBF.out, HNO.out HOK.out]; simp, HV2.out.below⟩
          | false =>
            rw [if_neg (by decide)] at hok
            have HOK := Lib.hid hok; clear hok
            by_cases hp0 : 0 ≤ px
            · by_cases hp1 : px < (hn : Int)
              · obtain ⟨b, rfl⟩ := Int.eq_ofNat_of_zero_le hp0
                have hbn : b < hn := by omega
                have e1 : decide ((b : Int) < 0) = false := by simp
                have e2 : decide ((hn : Int) ≤ (b : Int)) = false := by simp; omega
                have e2' : decide (hn ≤ b) = false := by simp; omega
                go_wp2_with fail
                refine (well_any ra ba oa ha pa ln rc hn bc on oc hn hc ln pc m o _ HV2.out.mkt HV2.out.out HFIT.out b hbn k hlt).mono ?_
                rintro e w3 ⟨rfl, hb3⟩
                rw [Int.toNat_natCast] at HOK
                have HV3 := Lib.hid (HV2.out.step hb3); clear HV2
                have HL3 := Lib.hid (HL2.out.below hb3 (Nat.le_refl _)); clear HL2
                have hW3 := HW2.out.stp hb3; clear hb3 HW2 d0 d1 q0 q1 q2 q3 q4 p0
                have d0 := hW3.cell (k := 0) rfl
                have d1 := hW3.cell (k := 1) rfl
                have p0 := HV3.out.v2.cell (k := 0) rfl
                clear hW3
                obtain ⟨wb, hwb⟩ : ∃ wb, wb = wellB m o b k := ⟨_, rfl⟩
                rw [← hwb] at HOK ⊢
                clear hwb
                cases wb with
                | false =>
                  rw [Bool.false_and, Bool.and_false] at HOK
                  go_wp2_with fail
                  go_ret
                  exact ⟨by rw [HBF.out, HNO.out HOK.out]; simp, HV3.out.below⟩
                | true =>
                  rw [Bool.true_and, decide_eq_true hp1, decide_eq_true (show (0 : Int) ≤ (b : Int) by omega), Bool.true_and, Bool.true_and] at HOK
                  obtain ⟨x, hx, _⟩ := HV3.out.out.has.get hbn
                  obtain ⟨hab, hao, rfl⟩ := HV3.out.out.has.addr (by omega)
                  have cx := HV3.out.out.has.cell hab hao rfl b x hx
                  have hxb := HFIT.out.item x (List.mem_of_getElem? hx)
                  rw [HV3.out.mkt.res.len] at hxb
                  have hro : rankOf o l (b : Int) = if x = -1 then 1 else wrap64 (1 + (l.getD x.toNat (0, 0)).2) := by
                    unfold rankOf; rw [Int.toNat_natCast, getD_at hx]
                  have i2 : (b : Int) < (hn : Int) := by omega
                  have HX := Lib.hid hx; clear hx
                  rw [hro] at HOK
                  clear hro
                  by_cases hx1 : x = -1
                  · rw [if_pos hx1] at HOK
                    subst hx1
                    by_cases hpy : py = 1
                    · subst hpy
                      go_wp2_with fail
                      go_roundg (gk - 1)
                      case measure => have := HKK.out; omega
                      case rel => exact ⟨k + 1, by have := HKK.out; omega, by go_num, by rw [HSUCC.out, HOK.out]; rfl, HV3.out, HL3.out⟩
                    · have e3 : (py != 1) = true := by simpa using hpy
                      have e3' : (py == 1) = false := by simpa using hpy
                      rw [e3'] at HOK
                      go_wp2_with fail
                      go_ret
                      exact ⟨by rw [HBF.out, HNO.out HOK.out]; simp, HV3.out.below⟩
                  · rw [if_neg hx1] at HOK
                    obtain ⟨j, rfl⟩ := Int.eq_ofNat_of_zero_le (show 0 ≤ x by omega)
                    have hj : j < ln := by omega
                    obtain ⟨q, hq⟩ := HL3.out.get hj
                    obtain ⟨cq1, cq2⟩ := HL3.out.cell lb lo rfl j q hq
                    obtain ⟨qx, qy⟩ := q
                    rw [Int.toNat_natCast, whyAt hq] at HOK
                    have i3 : (j : Int) < (ln : Int) := by omega
                    have e4 : ((j : Int) != -1) = true := by simp
                    have HQ := Lib.hid hq; clear hq
                    by_cases hpy : py = wrap64 (1 + qy)
                    · rw [← hpy] at HOK
                      have e5 : (py != wrap64 (1 + qy)) = false := by simpa using hpy
                      have HPY := Lib.hid hpy; clear hpy
                      go_wp2_with fail
                      go_roundg (gk - 1)
                      case measure => have := HKK.out; omega
                      case rel => exact ⟨k + 1, by have := HKK.out; omega, by go_num, by rw [HSUCC.out, HOK.out]; simp, HV3.out, HL3.out⟩
                    · have e5 : (py != wrap64 (1 + qy)) = true := by simpa using hpy
                      have e5' : (py == wrap64 (1 + qy)) = false := by simpa using hpy
                      rw [e5'] at HOK
                      have HPY := Lib.hid hpy; clear hpy
                      go_wp2_with fail
                      go_ret
                      exact ⟨by rw [HBF.out, HNO.out HOK.out]; simp, HV3.out.below⟩
              · have e1 : decide (px < 0) = false := by simp; omega
                have e2 : decide ((hn : Int) ≤ px) = true := by simp; omega
                rw [decide_eq_false hp1, Bool.and_false, Bool.false_and] at HOK
                go_wp2_with fail
                go_ret
                exact ⟨by rw [HBF.out, HNO.out HOK.out]; simp, HV2.out.below⟩
            · have e1 : decide (px < 0) = true := by simp; omega
              rw [decide_eq_false hp0, Bool.false_and, Bool.false_and] at HOK
              go_wp2_with fail
              go_ret
              exact ⟨by rw [HBF.out, HNO.out HOK.out]; simp, HV2.out.below⟩
        · obtain rfl : k = ln := by have := HKK.out; omega
          go_wp2_with fail
          go_ret
          exact ⟨by rw [HBF.out, HWT.out]; simp, hV.below⟩
    · have e2 : ((ln : Int) != (pn : Int)) = true := by simp; omega
      rw [decide_eq_false h1] at HBF
      clear h1
      go_wp2_with fail
      go_ret
      exact ⟨by rw [HBF.out]; simp, HV1.out.below⟩
end Go.Proofs.YtbnjeegicbffeaaGreat

/- The reading of an outcome, and of reasons: a law's arguments. -/
namespace Go.Proofs.YtbnjeegicbffeaaGreat
open Go.ChangeShapes Go.WideShapes Go.ChangeAt Go.RowKit Go.Joins Go.Deep
section
variable {H : Type} {enc : TypeId × Value → H}
set_option maxRecDepth 100000 in
theorem outcome_read {W : World} {r : Reach} {b0 : Nat} {v : Value} {d : DataW H} {p : List MemPlace} (hv : Value.okWide Tryz.prog W r b0 30 v)
    (h : DataW.Trod enc Tryz.prog W 0 (fun _ => true) true 30 v d p) (hs : Sized 30 d) :
    ∃ (ha pa : Option Addr) (hn hc pn pc : Nat) (o : Outc), v = .agg #[.slice ha hn hc, .slice pa pn pc] ∧ OutAt W ha pa hn hc pn pc o ∧ hn * 8 ≤ reachBytes ∧ pn * 8 ≤ reachBytes := by
  obtain ⟨v0, v1, y0, y1, n, rfl, rfl, rfl, h0, h1⟩ := open_agg2 Tryz.underlying30 (by kernel_rfl) (by kernel_rfl) hv h
  obtain ⟨ha, hn, hc, has, rfl, hr, hrn⟩ := ints_read h0 (fun n hn => hs n (by
    simp only [DataW.weights, Tryz.underlying30]
    exact DataW.weights_mem_each (j := 0) rfl rfl n hn))
  obtain ⟨pa, pn, pc, prices, rfl, ho, hon⟩ := ints_read h1 (fun n hn => hs n (by
    simp only [DataW.weights, Tryz.underlying30]
    exact DataW.weights_mem_each (j := 1) rfl rfl n hn))
  exact ⟨ha, pa, hn, hc, pn, pc, ⟨has, prices⟩, rfl, ⟨hr, ho⟩, hrn, hon⟩

theorem Tryz.cellsWhyL : Tryz.prog.cellsOf 75 = 2 := by kernel_rfl
theorem Tryz.bytesWhyL : Tryz.prog.bytesOf 75 = 16 := by kernel_rfl
set_option maxRecDepth 100000 in
theorem whys_read {w : World} {fuel : Nat} {v : Value} {x : DataW H × List MemPlace} (h : DataW.trod enc Tryz.prog w 0 (fun _ => true) true fuel 71 [v] = some x) (hs : Sized 71 x.1) :
    ∃ a n c l, v = .slice a n c ∧ Whys w a n c l ∧ n * 16 ≤ reachBytes := by
  rcases open_slice_pairs Tryz.underlying71 Tryz.underlying75 Tryz.cellsWhyL rfl rfl Tryz.cellsIntL Tryz.cellsIntL h with ⟨hcs, hx⟩ | ⟨a, len, cap, m, n, V0, V1, D0, D1, P0, P1, hcs, hb, hl, hm, hmm, rfl, hx⟩
  · obtain rfl : v = .slice none 0 0 := by simpa using hcs
    exact ⟨none, 0, 0, [], rfl, ⟨rfl, Nat.le_refl _, by omega, fun h => absurd h (by omega), fun _ _ _ k p h => by simp at h, fun p h => by simp at h⟩, by simp⟩
  · obtain rfl : v = .slice (some a) len cap := by simpa using hcs
    simp only [if_true] at hmm
    subst hmm
    have hw := hs ((len + (m - len)) * 16) (by simp [DataW.weights, Tryz.underlying71, Tryz.bytesWhyL])
    have hr := reachBytes_lt
    have hn8 : len * 16 ≤ reachBytes := by omega
    have each : ∀ i, i < len → ∃ p : Int × Int, V0 i = .int .i64 p.1 ∧ V1 i = .int .i64 p.2 ∧ (-9223372036854775808 ≤ p.1 ∧ p.1 ≤ 9223372036854775807) ∧ -9223372036854775808 ≤ p.2 ∧ p.2 ≤ 9223372036854775807 := fun i hi => by
      obtain ⟨_, _, t0, t1⟩ := hx i (by omega)
      obtain ⟨i0, hc0, _, w0⟩ := DataW.trod_int Tryz.underlying3 t0
      obtain ⟨i1, hc1, _, w1⟩ := DataW.trod_int Tryz.underlying3 t1
      exact ⟨(i0, i1), by simpa using hc0, by simpa using hc1, wf_i64 w0, wf_i64 w1⟩
    obtain ⟨X, hX⟩ := choose_lt each
    refine ⟨some a, len, m, (List.range len).map X, rfl, ⟨by simp, hl, by omega, fun h0 => ?_, fun b o e k p hp => ?_, fun p hp => ?_⟩, hn8⟩
    · exact ⟨_, _, by rw [← add_of_cell (by simpa using (hx 0 (by omega)).1)]⟩
    · cases e
      have hk : k < len := by have := (List.getElem?_eq_some_iff.1 hp).1; simpa using this
      obtain ⟨c0, c1, _, _⟩ := hx k (by omega)
      have e1 : ∀ j, (Addr.mk b o none).add j = ⟨b, o + j, none⟩ := fun j => by
        unfold Addr.add; split
        · subst j; rfl
        · rfl
      rw [e1] at c0 c1
      obtain ⟨h1, h2, _⟩ := hX k hk
      obtain rfl : X k = p := by simpa [hk] using hp
      exact ⟨by rw [c0, h1], by rw [Nat.add_assoc, c1, h2]⟩
    · obtain ⟨i, hi, rfl⟩ := List.mem_map.1 hp
      exact (hX i (List.mem_range.1 hi)).2.2

set_option maxRecDepth 100000 in
theorem whys_arg {W : World} {r : Reach} {b0 : Nat} {v : Value} {d : DataW H} {p : List MemPlace} (hv : Value.okWide Tryz.prog W r b0 71 v)
    (h : DataW.Trod enc Tryz.prog W 0 (fun _ => true) true 71 v d p) (hs : Sized 71 d) : ∃ a n c l, v = .slice a n c ∧ Whys W a n c l ∧ n * 16 ≤ reachBytes := by
  obtain ⟨a, n, c, rfl⟩ := okWide_slice Tryz.underlying71 hv
  obtain ⟨fuel, hf⟩ := h
  have hf2 : DataW.trod enc Tryz.prog W 0 (fun _ => true) true fuel 71 [.slice a n c] = some (d, p) := by simpa [Value.cells] using hf
  exact whys_read hf2 hs
end
end Go.Proofs.YtbnjeegicbffeaaGreat
