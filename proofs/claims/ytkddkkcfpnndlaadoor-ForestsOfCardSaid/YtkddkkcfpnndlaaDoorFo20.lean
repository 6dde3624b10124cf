/- Walks: forests: what a bidder has by an item; would it as well have it; does an item cost its reserve? Walks: forests: would a bidder as well have an item? Walks: forests.Check. Forests in plain words: what the code's reasons say of a wood; what is found. Walks: the reference's forests: does an outcome fit? would a bidder as well have an item? Walks: the reference's forests: are these the reasons? A block of pairs (a bidder, a rank) that a call has made and writes. Is an outcome even: as a word of the code, and in the words of the plain texts. -/
import Derived.Test.YtkddkkcfpnndlaaDoorFo16
import Derived.Test.YtkddkkcfpnndlaaDoorFo17
import Derived.Test.YtkddkkcfpnndlaaDoorFo19
import Derived.Test.YtkddkkcfpnndlaaDoorFo07
import Derived.Test.YtkddkkcfpnndlaaDoorFo18
import Derived.Test.YtkddkkcfpnndlaaDoorFo14
namespace Go.Proofs.YtkddkkcfpnndlaaDoor
open Go.RowKit Sale

def bidAt (m : Mkt) (i k : Nat) : Int := (m.bids.getD i []).getD k 0
/-- what it has by an item, as the machine reckons -/
def byV (m : Mkt) (o : Outc) (i : Nat) (x : Int) : Int := if x = -1 then 0 else wrap64 (bidAt m i x.toNat - o.prices.getD x.toNat 0)
def wellB (m : Mkt) (o : Outc) (i : Nat) (k : Int) : Bool := decide (0 < (m.bids.getD i []).length) && ((o.has.getD i (-1) != k) && (byV m o i (o.has.getD i (-1)) == byV m o i k))
def resB (m : Mkt) (o : Outc) (k : Nat) : Bool := o.prices.getD k 0 == m.res.getD k 0
theorem getD_at {l : List Int} {k : Nat} {x d : Int} (h : l[k]? = some x) : l.getD k d = x := by rw [List.getD_eq_getElem?_getD, h]; rfl
theorem bids_at {m : Mkt} {i : Nat} {b : List Int} (h : m.bids[i]? = some b) : m.bids.getD i [] = b := by rw [List.getD_eq_getElem?_getD, h]; rfl

set_option maxRecDepth 100000 in
set_option maxHeartbeats 2000000 in
theorem by_any (ra ba oa ha pa : Option Addr) (rn rc bn bc on oc hn hc pn pc : Nat) (m : Mkt) (o : Outc) (w : World) (hm : MktAt w ra ba oa rn rc bn bc on oc m) (ho : OutAt w ha pa hn hc pn pc o) (hf : FitOk m o) (i : Nat) (b : List Int) (hb : m.bids[i]? = some b) (hb0 : 0 < b.length)
    (x : Int) (hx1 : -1 ≤ x) (hx2 : x < (rn : Int)) :
    Calls Tryd.prog 58 #[.agg #[.slice ra rn rc, .slice ba bn bc, .slice oa on oc, .slice ha hn hc, .slice pa pn pc], .int .i64 i, .int .i64 x] w fun e w' => e = .returned (.int .i64 (byV m o i x)) ∧ Below w.heap.size w w' := by
  have HB0 := Lib.hid (vw_start w ra ba oa ha pa rn rc bn bc on oc hn hc pn pc)
  obtain ⟨c0, c1, c2, c3, c4, hs, hbw⟩ := vw_kept HB0.out
  have hm1 := hm.below hbw (Nat.le_refl _)
  have ho1 := ho.below hbw (Nat.le_refl _)
  have HBW := Lib.hid hbw; clear hbw
  have hpn : pn = rn := by rw [← ho.prices.len, ← hm.res.len]; exact hf.plen
  subst hpn
  have hib : i < bn := by rw [← hm.bids.len]; exact (List.getElem?_eq_some_iff.1 hb).1
  have hbl : b.length = pn := by
    rcases hf.mok.bid b (List.mem_of_getElem? hb) with e | ⟨e, _⟩
    · rw [e] at hb0; simp at hb0
    · rw [e]; exact hm.res.len
  obtain ⟨bb, bo, rfl⟩ := hm1.bids.addr (by omega)
  obtain ⟨la, ln, lc, hcl, hli⟩ := hm1.bids.cell bb bo rfl i b hb
  have hln : ln = pn := by rw [← hli.len]; exact hbl
  subst hln
  clear hm ho
  have i1 : (i : Int) < (bn : Int) := by omega
  by_cases hx : x = -1
  · subst hx
    go_enter Tryd.func58, Tryd.ntmps58
    go_wp2_with fail
    go_ret
    exact ⟨rfl, HBW.out⟩
  · obtain ⟨k, rfl⟩ := Int.eq_ofNat_of_zero_le (show 0 ≤ x by omega)
    have hk : k < ln := by omega
    obtain ⟨y, hy, _⟩ := hli.get hk
    obtain ⟨p, hp, _⟩ := ho1.prices.get hk
    obtain ⟨lb, lo, rfl⟩ := hli.addr (by omega)
    obtain ⟨pb, po, rfl⟩ := ho1.prices.addr (by omega)
    have cy := hli.cell lb lo rfl k y hy
    have cp := ho1.prices.cell pb po rfl k p hp
    have hv : byV m o i (k : Int) = wrap64 (y - p) := by
      unfold byV bidAt
      rw [if_neg hx, Int.toNat_natCast, bids_at hb, getD_at hy, getD_at hp]
    rw [hv]
    have HV := Lib.hid hv; clear hv
    have e1 : ((k : Int) == -1) = false := by simp
    have i2 : (k : Int) < (ln : Int) := by omega
    clear hy hp hb hli ho1 hm1 hx hx1 hx2 hbl
    simp only [vw] at c0 c1 c2 c3 c4 hcl cy cp
    go_enter Tryd.func58, Tryd.ntmps58
    go_wp2_with fail
    go_quiet (fail)
    go_wp2_with fail
    go_ret
    exact ⟨rfl, below_drewN HBW.out _⟩

set_option maxRecDepth 100000 in
set_option maxHeartbeats 2000000 in
theorem reserved_any (ra ba oa ha pa : Option Addr) (rn rc bn bc on oc hn hc pn pc : Nat) (m : Mkt) (o : Outc) (w : World) (hm : MktAt w ra ba oa rn rc bn bc on oc m) (ho : OutAt w ha pa hn hc pn pc o) (hf : FitOk m o) (k : Nat) (hk : k < rn) :
    Calls Tryd.prog 22 #[.agg #[.slice ra rn rc, .slice ba bn bc, .slice oa on oc, .slice ha hn hc, .slice pa pn pc], .int .i64 k] w fun e w' => e = .returned (.bool (resB m o k)) ∧ Below w.heap.size w w' := by
  have HB0 := Lib.hid (vw_start w ra ba oa ha pa rn rc bn bc on oc hn hc pn pc)
  obtain ⟨c0, c1, c2, c3, c4, hs, hbw⟩ := vw_kept HB0.out
  have hm1 := hm.below hbw (Nat.le_refl _)
  have ho1 := ho.below hbw (Nat.le_refl _)
  have HBW := Lib.hid hbw; clear hbw
  have hpn : pn = rn := by rw [← ho.prices.len, ← hm.res.len]; exact hf.plen
  subst hpn
  obtain ⟨y, hy, _⟩ := hm1.res.get hk
  obtain ⟨p, hp, _⟩ := ho1.prices.get hk
  obtain ⟨lb, lo, rfl⟩ := hm1.res.addr (by omega)
  obtain ⟨pb, po, rfl⟩ := ho1.prices.addr (by omega)
  have cy := hm1.res.cell lb lo rfl k y hy
  have cp := ho1.prices.cell pb po rfl k p hp
  have hv : resB m o k = (p == y) := by unfold resB; rw [getD_at hy, getD_at hp]
  rw [hv]
  have HV := Lib.hid hv; clear hv
  have i2 : (k : Int) < (pn : Int) := by omega
  clear hy hp ho1 hm1 hm ho
  simp only [vw] at c0 c1 c2 c3 c4 cy cp
  go_enter Tryd.func22, Tryd.ntmps22
  go_wp2_with fail
  go_quiet (fail)
  go_wp2_with fail
  go_ret
  exact ⟨rfl, below_drewN HBW.out _⟩
end Go.Proofs.YtkddkkcfpnndlaaDoor

namespace Go.Proofs.YtkddkkcfpnndlaaDoor
open Go.RowKit Sale

theorem by_kept (w0 : World) (y : Kept (Below w0.heap.size w0)) (ra ba oa ha pa : Option Addr) (rn rc bn bc on oc hn hc pn pc : Nat) (m : Mkt) (o : Outc) (hm : MktAt w0 ra ba oa rn rc bn bc on oc m) (ho : OutAt w0 ha pa hn hc pn pc o) (hf : FitOk m o) (i : Nat) (b : List Int) (hb : m.bids[i]? = some b) (hb0 : 0 < b.length)
    (x : Int) (hx1 : -1 ≤ x) (hx2 : x < (rn : Int)) (V : Int) (hV : byV m o i x = V) :
    Calls Tryd.prog 58 #[.agg #[.slice ra rn rc, .slice ba bn bc, .slice oa on oc, .slice ha hn hc, .slice pa pn pc], .int .i64 i, .int .i64 x] y.w fun e w' => e = .returned (.int .i64 V) ∧ ∃ z : Kept (Below w0.heap.size w0), w' = z.w := by
  subst hV
  exact Kept.call ((by_any ra ba oa ha pa rn rc bn bc on oc hn hc pn pc m o y.w (hm.below y.h (Nat.le_refl _)) (ho.below y.h (Nat.le_refl _)) hf i b hb hb0 x hx1 hx2).mono fun _ _ ⟨h1, h2⟩ => ⟨h1, y.h.trans (h2.mono y.h.size)⟩)

set_option maxRecDepth 100000 in
set_option maxHeartbeats 2000000 in
theorem well_any (ra ba oa ha pa : Option Addr) (rn rc bn bc on oc hn hc pn pc : Nat) (m : Mkt) (o : Outc) (w : World) (hm : MktAt w ra ba oa rn rc bn bc on oc m) (ho : OutAt w ha pa hn hc pn pc o) (hf : FitOk m o) (i : Nat) (hi : i < bn) (k : Nat) (hk : k < rn) :
    Calls Tryd.prog 23 #[.agg #[.slice ra rn rc, .slice ba bn bc, .slice oa on oc, .slice ha hn hc, .slice pa pn pc], .int .i64 i, .int .i64 k] w fun e w' => e = .returned (.bool (wellB m o i k)) ∧ Below w.heap.size w w' := by
  have HB0 := Lib.hid (vw_start w ra ba oa ha pa rn rc bn bc on oc hn hc pn pc)
  obtain ⟨c0, c1, c2, c3, c4, hs, hbw⟩ := vw_kept HB0.out
  have hm1 := hm.below hbw (Nat.le_refl _)
  have ho1 := ho.below hbw (Nat.le_refl _)
  have HBW := Lib.hid hbw; clear hbw
  have hhn : hn = bn := by rw [← ho.has.len, ← hm.bids.len]; exact hf.hlen
  subst hhn
  obtain ⟨b, hb⟩ := hm1.bids.get hi
  obtain ⟨x, hx, _⟩ := ho1.has.get hi
  obtain ⟨bb, bo, rfl⟩ := hm1.bids.addr (by omega)
  obtain ⟨hb', ho', rfl⟩ := ho1.has.addr (by omega)
  obtain ⟨la, ln, lc, hcl, hli⟩ := hm1.bids.cell bb bo rfl i b hb
  have cx := ho1.has.cell hb' ho' rfl i x hx
  have hll := hli.len
  have hxb := hf.item x (List.mem_of_getElem? hx)
  rw [hm.res.len] at hxb
  have hv : wellB m o i k = (decide (0 < ln) && ((x != (k : Int)) && (byV m o i x == byV m o i k))) := by
    unfold wellB
    rw [bids_at hb, getD_at hx, hll]
  obtain ⟨bf, hbf⟩ : ∃ bf, bf = wellB m o i k := ⟨_, rfl⟩
  rw [← hbf]
  rw [hv] at hbf
  have HBF := Lib.hid hbf; clear hbf hv
  have i1 : (i : Int) < (hn : Int) := by omega
  have HF := Lib.hid hf; clear hf
  have HBI := Lib.hid hb; clear hb
  have HX := Lib.hid hx; clear hx hli
  obtain ⟨w1, hw1⟩ : ∃ w1, w1 = vw w ra (some ⟨bb, bo, none⟩) oa (some ⟨hb', ho', none⟩) pa rn rc hn bc on oc hn hc pn pc := ⟨_, rfl⟩
  rw [← hw1] at c0 c1 c2 c3 c4 hcl cx hm1 ho1 HBW
  have HM1 := Lib.hid hm1; clear hm1
  have HO1 := Lib.hid ho1; clear ho1
  have hw1' : w.alloc (.cells #[.slice ra rn rc, .slice (some ⟨bb, bo, none⟩) hn bc, .slice oa on oc, .slice (some ⟨hb', ho', none⟩) hn hc, .slice pa pn pc] 59) = w1 := hw1.symm
  clear hw1 HB0 hm ho
  go_enter Tryd.func23, Tryd.ntmps23
  go_upto_region 2 with fail
  try rw [hw1']
  clear hw1'
  have hbd : Below w1.heap.size w1 w1.drew := (Below.refl _ _).drew
  have hne' : Nonempty (Kept (Below w1.heap.size w1)) := ⟨⟨_, hbd⟩⟩
  have k0 : ∀ z : Kept (Below w1.heap.size w1), z.w.cell? ⟨w.heap.size, 0, none⟩ = some (.slice ra rn rc) := fun z => cell_step z.h c0
  have k1 : ∀ z : Kept (Below w1.heap.size w1), z.w.cell? ⟨w.heap.size, 1, none⟩ = some (.slice (some ⟨bb, bo, none⟩) hn bc) := fun z => cell_step z.h c1
  have k2 : ∀ z : Kept (Below w1.heap.size w1), z.w.cell? ⟨w.heap.size, 2, none⟩ = some (.slice oa on oc) := fun z => cell_step z.h c2
  have k3 : ∀ z : Kept (Below w1.heap.size w1), z.w.cell? ⟨w.heap.size, 3, none⟩ = some (.slice (some ⟨hb', ho', none⟩) hn hc) := fun z => cell_step z.h c3
  have k4 : ∀ z : Kept (Below w1.heap.size w1), z.w.cell? ⟨w.heap.size, 4, none⟩ = some (.slice pa pn pc) := fun z => cell_step z.h c4
  have k5 : ∀ z : Kept (Below w1.heap.size w1), z.w.cell? ⟨bb, bo + i, none⟩ = some (.slice la ln lc) := fun z => cell_step z.h hcl
  clear c0 c1 c2 c3 c4 hcl cx
  by_cases h0 : 0 < ln
  · have e1 : decide (0 < (ln : Int)) = true := by simp; omega
    by_cases h1 : x = (k : Int)
    · subst h1
      have h0' : decide (0 < ln) = true := by simpa using h0
      refine wp_region_kept (Below w1.heap.size w1) (by kernel_rfl) (by kernel_rfl) hbd ?_
      repeat (go_big_quiet_step (fail))
      refine wpQuiet_nil ?_
      intro _ hw'
      obtain ⟨⟨w4, hb4⟩, rfl⟩ := hw'
      clear k0 k1 k2 k3 k4 k5 hne'
      go_wp2_with fail
      go_ret
      exact ⟨by rw [HBF.out]; simp, HBW.out.trans (hb4.mono HBW.out.size)⟩
    · have e2 : (x != (k : Int)) = true := by simpa using h1
      obtain ⟨u, hu⟩ : ∃ u, byV m o i x = u := ⟨_, rfl⟩
      obtain ⟨v, hv⟩ : ∃ v, byV m o i k = v := ⟨_, rfl⟩
      have HU := Lib.hid hu
      have HV := Lib.hid hv
      rw [hu, hv] at HBF
      clear hu hv
      have h0b : 0 < b.length := by omega
      have hA := fun z : Kept (Below w1.heap.size w1) => by_kept w1 z ra (some ⟨bb, bo, none⟩) oa (some ⟨hb', ho', none⟩) pa rn rc hn bc on oc hn hc pn pc m o HM1.out HO1.out HF.out i b HBI.out h0b x hxb.1 hxb.2 u HU.out
      have hB := fun z : Kept (Below w1.heap.size w1) => by_kept w1 z ra (some ⟨bb, bo, none⟩) oa (some ⟨hb', ho', none⟩) pa rn rc hn bc on oc hn hc pn pc m o HM1.out HO1.out HF.out i b HBI.out h0b (k : Int) (by omega) (by omega) v HV.out
      have HA := Lib.hid hA; clear hA
      have HB := Lib.hid hB; clear hB
      refine wp_region_kept (Below w1.heap.size w1) (by kernel_rfl) (by kernel_rfl) hbd ?_
      repeat (go_big_quiet_step ((go_at_call 58; first | with_reducible exact HA.out _ | with_reducible exact HB.out _)))
      refine wpQuiet_nil ?_
      intro _ hw'
      obtain ⟨⟨w4, hb4⟩, rfl⟩ := hw'
      clear k0 k1 k2 k3 k4 k5 hne'
      go_wp2_with fail
      go_ret
      exact ⟨by rw [HBF.out, e2, decide_eq_true h0]; simp, HBW.out.trans (hb4.mono HBW.out.size)⟩
  · obtain rfl : ln = 0 := by omega
    refine wp_region_kept (Below w1.heap.size w1) (by kernel_rfl) (by kernel_rfl) hbd ?_
    repeat (go_big_quiet_step (fail))
    refine wpQuiet_nil ?_
    intro _ hw'
    obtain ⟨⟨w4, hb4⟩, rfl⟩ := hw'
    clear k0 k1 k2 k3 k4 k5 hne'
    go_wp2_with fail
    go_ret
    exact ⟨by rw [HBF.out]; simp, HBW.out.trans (hb4.mono HBW.out.size)⟩
end Go.Proofs.YtkddkkcfpnndlaaDoor

namespace Go.Proofs.YtkddkkcfpnndlaaDoor
open Go.RowKit Sale

/-- reasons in memory: pairs of a bidder and a rank -/
structure Whys (w : World) (a : Option Addr) (n c : Nat) (l : List (Int × Int)) : Prop where
  len : l.length = n
  cap : n ≤ c
  big : n ≤ 4611686018427387904
  addr : 0 < n → ∃ b o, a = some ⟨b, o, none⟩
  cell : ∀ b o, a = some ⟨b, o, none⟩ → ∀ (k : Nat) (p : Int × Int), l[k]? = some p → w.cell? ⟨b, o + k * 2, none⟩ = some (.int .i64 p.1) ∧ w.cell? ⟨b, o + k * 2 + 1, none⟩ = some (.int .i64 p.2)
  bd : ∀ p, p ∈ l → (-9223372036854775808 ≤ p.1 ∧ p.1 ≤ 9223372036854775807) ∧ -9223372036854775808 ≤ p.2 ∧ p.2 ≤ 9223372036854775807
theorem Whys.below {w w' : World} {a : Option Addr} {n c : Nat} {l : List (Int × Int)} (h : Whys w a n c l) {B : Nat} (hb : Below B w w') (hB : w.heap.size ≤ B) : Whys w' a n c l :=
  ⟨h.len, h.cap, h.big, h.addr, fun b o e k p hp => by
    have h1 := h.cell b o e k p hp
    have h2 := hb.mono hB
    exact ⟨cell_step h2 h1.1, cell_step h2 h1.2⟩, h.bd⟩
theorem Whys.get {w : World} {a : Option Addr} {n c : Nat} {l : List (Int × Int)} (h : Whys w a n c l) {k : Nat} (hk : k < n) : ∃ p, l[k]? = some p := ⟨_, List.getElem?_eq_getElem (by rw [h.len]; exact hk)⟩

/-- the rank that it must have -/
def rankOf (o : Outc) (l : List (Int × Int)) (b : Int) : Int := if o.has.getD b.toNat (-1) = -1 then 1 else wrap64 (1 + (l.getD (o.has.getD b.toNat (-1)).toNat (0, 0)).2)
def okWhy (m : Mkt) (o : Outc) (l : List (Int × Int)) (j : Nat) : Bool :=
  if resB m o j = true then (l.getD j (0, 0)) == (-1, 0)
  else (decide (0 ≤ (l.getD j (0, 0)).1) && decide ((l.getD j (0, 0)).1 < (o.has.length : Int))) && (wellB m o (l.getD j (0, 0)).1.toNat j && (l.getD j (0, 0)).2 == rankOf o l (l.getD j (0, 0)).1)
def whyTo (m : Mkt) (o : Outc) (l : List (Int × Int)) (k : Nat) : Bool := (List.range k).all (okWhy m o l)
def checkB (m : Mkt) (o : Outc) (l : List (Int × Int)) : Bool := ofitsB m o && (decide (l.length = o.prices.length) && whyTo m o l l.length)
theorem whyTo_succ (m : Mkt) (o : Outc) (l : List (Int × Int)) (k : Nat) : whyTo m o l (k + 1) = (whyTo m o l k && okWhy m o l k) := by unfold whyTo; rw [List.range_succ, List.all_append]; simp
theorem whyTo_no {m : Mkt} {o : Outc} {l : List (Int × Int)} {k n : Nat} (h : okWhy m o l k = false) (hk : k < n) : whyTo m o l n = false := by
  unfold whyTo; rw [List.all_eq_false]; exact ⟨k, List.mem_range.2 hk, by simp [h]⟩
theorem whyAt {l : List (Int × Int)} {k : Nat} {p : Int × Int} (h : l[k]? = some p) : l.getD k (0, 0) = p := by rw [List.getD_eq_getElem?_getD, h]; rfl

/-- the world behind the copies of a market and an outcome, and the view of them -/
structure VAt (w : World) (B1 B2 B3 : Nat) (ra ba oa ha pa : Option Addr) (rn rc bn bc on oc hn hc pn pc : Nat) (m : Mkt) (o : Outc) (wr : World) : Prop where
  v1 : VRow wr B1 25 [.slice ra rn rc, .slice ba bn bc, .slice oa on oc]
  v2 : VRow wr B2 27 [.slice ha hn hc, .slice pa pn pc]
  v3 : VRow wr B3 59 [.slice ra rn rc, .slice ba bn bc, .slice oa on oc, .slice ha hn hc, .slice pa pn pc]
  mkt : MktAt wr ra ba oa rn rc bn bc on oc m
  out : OutAt wr ha pa hn hc pn pc o
  below : Below w.heap.size w wr
theorem VRow.stp {w w' : World} {B : Nat} {T : TypeId} {vals : List Value} (h : VRow w B T vals) (hb : Below w.heap.size w w') : VRow w' B T vals := h.below hb h.lt
theorem VAt.step {w : World} {B1 B2 B3 : Nat} {ra ba oa ha pa : Option Addr} {rn rc bn bc on oc hn hc pn pc : Nat} {m : Mkt} {o : Outc} {wr wr' : World} (h : VAt w B1 B2 B3 ra ba oa ha pa rn rc bn bc on oc hn hc pn pc m o wr) (hb : Below wr.heap.size wr wr') : VAt w B1 B2 B3 ra ba oa ha pa rn rc bn bc on oc hn hc pn pc m o wr' :=
  ⟨h.v1.stp hb, h.v2.stp hb, h.v3.stp hb, h.mkt.below hb (Nat.le_refl _), h.out.below hb (Nat.le_refl _), h.below.trans (hb.mono h.below.size)⟩
theorem VAt.new (w : World) {ra ba oa ha pa : Option Addr} {rn rc bn bc on oc hn hc pn pc : Nat} {m : Mkt} {o : Outc} (hm : MktAt w ra ba oa rn rc bn bc on oc m) (ho : OutAt w ha pa hn hc pn pc o) :
    VAt w w.heap.size (w.heap.size + 1) (w.heap.size + 1 + 1) ra ba oa ha pa rn rc bn bc on oc hn hc pn pc m o (((w.alloc (.cells #[.slice ra rn rc, .slice ba bn bc, .slice oa on oc] 25)).alloc (.cells #[.slice ha hn hc, .slice pa pn pc] 27)).alloc (.cells #[.slice ra rn rc, .slice ba bn bc, .slice oa on oc, .slice ha hn hc, .slice pa pn pc] 59)) := by
  have hb : Below w.heap.size w (((w.alloc (.cells #[.slice ra rn rc, .slice ba bn bc, .slice oa on oc] 25)).alloc (.cells #[.slice ha hn hc, .slice pa pn pc] 27)).alloc (.cells #[.slice ra rn rc, .slice ba bn bc, .slice oa on oc, .slice ha hn hc, .slice pa pn pc] 59)) :=
    (((Below.refl _ w).alloc (Nat.le_refl _) _).alloc (by simp) _).alloc (by simp; omega) _
  have h1 := VRow.new w 25 [.slice ra rn rc, .slice ba bn bc, .slice oa on oc]
  have h2 := VRow.new (w.alloc (.cells #[.slice ra rn rc, .slice ba bn bc, .slice oa on oc] 25)) 27 [.slice ha hn hc, .slice pa pn pc]
  have h3 := VRow.new ((w.alloc (.cells #[.slice ra rn rc, .slice ba bn bc, .slice oa on oc] 25)).alloc (.cells #[.slice ha hn hc, .slice pa pn pc] 27)) 59 [.slice ra rn rc, .slice ba bn bc, .slice oa on oc, .slice ha hn hc, .slice pa pn pc]
  rw [show (w.alloc (.cells #[.slice ra rn rc, .slice ba bn bc, .slice oa on oc] 25)).heap.size = w.heap.size + 1 by simp] at h2
  rw [show ((w.alloc (.cells #[.slice ra rn rc, .slice ba bn bc, .slice oa on oc] 25)).alloc (.cells #[.slice ha hn hc, .slice pa pn pc] 27)).heap.size = w.heap.size + 1 + 1 by simp] at h3
  exact ⟨(h1.alloc _).alloc _, h2.alloc _, h3, hm.below hb (Nat.le_refl _), ho.below hb (Nat.le_refl _), hb⟩

set_option maxRecDepth 100000 in
set_option maxHeartbeats 4000000 in
theorem fcheck_any (ra ba oa ha pa la : Option Addr) (rn rc bn bc on oc hn hc pn pc ln lc : Nat) (m : Mkt) (o : Outc) (l : List (Int × Int)) (w : World) (hm : MktAt w ra ba oa rn rc bn bc on oc m) (ho : OutAt w ha pa hn hc pn pc o) (hl : Whys w la ln lc l) :
    Calls Tryd.prog 10 #[.agg #[.slice ra rn rc, .slice ba bn bc, .slice oa on oc], .agg #[.slice ha hn hc, .slice pa pn pc], .slice la ln lc] w fun e w' => e = .returned (.bool (checkB m o l)) ∧ Below w.heap.size w w' := by
  have HV0 := Lib.hid (VAt.new w hm ho)
  have hlb := hl.len
  have hhl := ho.has.len
  have hpl := ho.prices.len
  obtain ⟨bf, hbf⟩ : ∃ bf, bf = checkB m o l := ⟨_, rfl⟩
  rw [← hbf]
  unfold checkB at hbf
  rw [hlb, hpl] at hbf
  have HBF := Lib.hid hbf; clear hbf
  have HL := Lib.hid hl; clear hl
  clear hm ho
  go_enter Tryd.func10, Tryd.ntmps10
  go_wp2_with fail
  refine (ofits_any ra ba oa ha pa rn rc bn bc on oc hn hc pn pc m o _ HV0.out.mkt HV0.out.out).mono ?_
  rintro e w1 ⟨rfl, hb⟩
  have HV1 := Lib.hid (HV0.out.step hb); clear hb HV0
  have HL1 := Lib.hid (HL.out.below HV1.out.below (Nat.le_refl _)); clear HL
  obtain ⟨fb, hfb⟩ : ∃ fb, fb = ofitsB m o := ⟨_, rfl⟩
  rw [← hfb] at HBF ⊢
  have c1 := HV1.out.v2.cell (k := 1) rfl
  obtain ⟨B1, hB1⟩ : ∃ B1, B1 = w.heap.size := ⟨_, rfl⟩
  obtain ⟨B2, hB2⟩ : ∃ B2, B2 = w.heap.size + 1 := ⟨_, rfl⟩
  obtain ⟨B3, hB3⟩ : ∃ B3, B3 = w.heap.size + 1 + 1 := ⟨_, rfl⟩
  rw [← hB3, ← hB2] at HV1 ⊢
  rw [← hB2] at c1
  rw [← hB1]
  have HV1 := Lib.hid (show VAt w B1 B2 B3 ra ba oa ha pa rn rc bn bc on oc hn hc pn pc m o w1 by rw [hB1]; exact HV1.out)
  clear hB1 hB2 hB3
  have HFB := Lib.hid hfb; clear hfb
  cases fb with
  | false =>
    go_wp2_with fail
    go_ret
    exact ⟨by rw [HBF.out]; rfl, HV1.out.below⟩
  | true =>
    have hfit := ofitsB_ok HFB.out.symm
    clear HFB
    by_cases h1 : ln = pn
    · subst h1
      have hrn : ln = rn := by rw [← HV1.out.mkt.res.len, ← hfit.plen, hpl]
      have hhn : hn = bn := by rw [← HV1.out.mkt.bids.len, ← hfit.hlen, hhl]
      have hn8 := hfit.mok.n8
      have hm8 := hfit.mok.m8
      rw [HV1.out.mkt.res.len] at hn8
      rw [HV1.out.mkt.bids.len] at hm8
      have HFIT := Lib.hid hfit; clear hfit
      subst hrn
      subst hhn
      go_wp2_with fail
      clear c1
      go_loopg [28] ln (fun g' s28 wr => ∃ k : Nat, k + g' = ln ∧ s28 = .int .i64 k ∧ whyTo m o l k = true ∧ VAt w B1 B2 B3 ra ba oa ha pa ln rc hn bc on oc hn hc ln pc m o wr ∧ Whys wr la ln lc l)
      case atStart => exact ⟨0, by omega, rfl, rfl, HV1.out, HL1.out⟩
      case round =>
        obtain ⟨k, hk, rfl, hwt, hV, hL⟩ := hrel
        have HKK := Lib.hid hk; clear hk
        have HWT := Lib.hid hwt; clear hwt
        by_cases hlt : k < ln
        · obtain ⟨p, hp⟩ := hL.get hlt
          obtain ⟨lb, lo, rfl⟩ := hL.addr (by omega)
          obtain ⟨cp1, cp2⟩ := hL.cell lb lo rfl k p hp
          have q0 := hV.v3.cell (k := 0) rfl
          have q1 := hV.v3.cell (k := 1) rfl
          have q2 := hV.v3.cell (k := 2) rfl
          have q3 := hV.v3.cell (k := 3) rfl
          have q4 := hV.v3.cell (k := 4) rfl
          have i1 : (k : Int) < (ln : Int) := by omega
          have hsz3 := hV.v3.lt
          have HV := Lib.hid hV; clear hV
          have HL := Lib.hid hL; clear hL
          have HP := Lib.hid hp; clear hp
          obtain ⟨px, py⟩ := p
          go_wp2_with fail
          have HVa := Lib.hid (HV.out.step ((Below.refl _ _).alloc (Nat.le_refl _) (.cells #[.int .i64 px, .int .i64 py] 38)))
          have hW := VRow.new wr 38 [.int .i64 px, .int .i64 py]
          have HLa := Lib.hid (HL.out.below ((Below.refl _ _).alloc (Nat.le_refl _) (.cells #[.int .i64 px, .int .i64 py] 38)) (Nat.le_refl _))
          have HWa := Lib.hid hW; clear hW HV HL q0 q1 q2 q3 q4 cp1 cp2
          refine (reserved_any ra ba oa ha pa ln rc hn bc on oc hn hc ln pc m o _ HVa.out.mkt HVa.out.out HFIT.out k hlt).mono ?_
          rintro e w2 ⟨rfl, hb2⟩
          have HV2 := Lib.hid (HVa.out.step hb2); clear HVa
          have HL2 := Lib.hid (HLa.out.below hb2 (Nat.le_refl _)); clear HLa
          have hW2 := HWa.out.stp hb2; clear hb2 HWa
          have d0 := hW2.cell (k := 0) rfl
          have d1 := hW2.cell (k := 1) rfl
          have hszW := hW2.lt
          have HW2 := Lib.hid hW2; clear hW2
          have q0 := HV2.out.v3.cell (k := 0) rfl
          have q1 := HV2.out.v3.cell (k := 1) rfl
          have q2 := HV2.out.v3.cell (k := 2) rfl
          have q3 := HV2.out.v3.cell (k := 3) rfl
          have q4 := HV2.out.v3.cell (k := 4) rfl
          have p0 := HV2.out.v2.cell (k := 0) rfl
          have hno := fun h : okWhy m o l k = false => whyTo_no h (n := ln) hlt
          have hok : okWhy m o l k = if resB m o k = true then (px, py) == (-1, 0) else (decide (0 ≤ px) && decide (px < (hn : Int))) && (wellB m o px.toNat k && py == rankOf o l px) := by
            unfold okWhy; rw [whyAt HP.out, hhl]
          have HNO := Lib.hid hno; clear hno
          have hsucc := whyTo_succ m o l k
          rw [HWT.out, Bool.true_and] at hsucc
          have HSUCC := Lib.hid hsucc; clear hsucc
          obtain ⟨rb, hrb⟩ : ∃ rb, rb = resB m o k := ⟨_, rfl⟩
          rw [← hrb] at hok ⊢
          clear hrb
          cases rb with
          | true =>
            rw [if_pos rfl] at hok
            have HOK := Lib.hid hok; clear hok
            by_cases hpe : px = -1 ∧ py = 0
            · obtain ⟨rfl, rfl⟩ := hpe
              go_wp2_with fail
              go_roundg (gk - 1)
              case measure => have := HKK.out; omega
              case rel => exact ⟨k + 1, by have := HKK.out; omega, by go_num, by rw [HSUCC.out, HOK.out]; rfl, HV2.out, HL2.out⟩
            · have hne : ((px, py) == ((-1, 0) : Int × Int)) = false := by simpa using hpe
              rw [hne] at HOK
              clear hne
              by_cases hp1 : px = -1
              · have hp2 : ¬ py = 0 := fun e => hpe ⟨hp1, e⟩
                subst hp1
                clear hpe
                go_wp2_with fail
                go_ret
                exact ⟨by rw [HBF.out, HNO.out HOK.out]; simp, HV2.out.below⟩
              · clear hpe
                go_wp2_with fail
                go_ret
                exact ⟨by rw [HBF.out, HNO.out HOK.out]; simp, HV2.out.below⟩
          | false =>
            rw [if_neg (by decide)] at hok
            have HOK := Lib.hid hok; clear hok
            by_cases hp0 : 0 ≤ px
            · by_cases hp1 : px < (hn : Int)
              · obtain ⟨b, rfl⟩ := Int.eq_ofNat_of_zero_le hp0
                have hbn : b < hn := by omega
                have e1 : decide ((b : Int) < 0) = false := by simp
                have e2 : decide ((hn : Int) ≤ (b : Int)) = false := by simp; omega
                have e2' : decide (hn ≤ b) = false := by simp; omega
                go_wp2_with fail
                refine (well_any ra ba oa ha pa ln rc hn bc on oc hn hc ln pc m o _ HV2.out.mkt HV2.out.out HFIT.out b hbn k hlt).mono ?_
                rintro e w3 ⟨rfl, hb3⟩
                rw [Int.toNat_natCast] at HOK
                have HV3 := Lib.hid (HV2.out.step hb3); clear HV2
                have HL3 := Lib.hid (HL2.out.below hb3 (Nat.le_refl _)); clear HL2
                have hW3 := HW2.out.stp hb3; clear hb3 HW2 d0 d1 q0 q1 q2 q3 q4 p0
                have d0 := hW3.cell (k := 0) rfl
                have d1 := hW3.cell (k := 1) rfl
                have p0 := HV3.out.v2.cell (k := 0) rfl
                clear hW3
                obtain ⟨wb, hwb⟩ : ∃ wb, wb = wellB m o b k := ⟨_, rfl⟩
                rw [← hwb] at HOK ⊢
                clear hwb
                cases wb with
                | false =>
                  rw [Bool.false_and, Bool.and_false] at HOK
                  go_wp2_with fail
                  go_ret
                  exact ⟨by rw [HBF.out, HNO.out HOK.out]; simp, HV3.out.below⟩
                | true =>
                  rw [Bool.true_and, decide_eq_true hp1, decide_eq_true (show (0 : Int) ≤ (b : Int) by omega), Bool.true_and, Bool.true_and] at HOK
                  obtain ⟨x, hx, _⟩ := HV3.out.out.has.get hbn
                  obtain ⟨hab, hao, rfl⟩ := HV3.out.out.has.addr (by omega)
                  have cx := HV3.out.out.has.cell hab hao rfl b x hx
                  have hxb := HFIT.out.item x (List.mem_of_getElem? hx)
                  rw [HV3.out.mkt.res.len] at hxb
                  have hro : rankOf o l (b : Int) = if x = -1 then 1 else wrap64 (1 + (l.getD x.toNat (0, 0)).2) := by
                    unfold rankOf; rw [Int.toNat_natCast, getD_at hx]
                  have i2 : (b : Int) < (hn : Int) := by omega
                  have HX := Lib.hid hx; clear hx
                  rw [hro] at HOK
                  clear hro
                  by_cases hx1 : x = -1
                  · rw [if_pos hx1] at HOK
                    subst hx1
                    by_cases hpy : py = 1
                    · subst hpy
                      go_wp2_with fail
                      go_roundg (gk - 1)
                      case measure => have := HKK.out; omega
                      case rel => exact ⟨k + 1, by have := HKK.out; omega, by go_num, by rw [HSUCC.out, HOK.out]; rfl, HV3.out, HL3.out⟩
                    · have e3 : (py != 1) = true := by simpa using hpy
                      have e3' : (py == 1) = false := by simpa using hpy
                      rw [e3'] at HOK
                      go_wp2_with fail
                      go_ret
                      exact ⟨by rw [HBF.out, HNO.out HOK.out]; simp, HV3.out.below⟩
                  · rw [if_neg hx1] at HOK
                    obtain ⟨j, rfl⟩ := Int.eq_ofNat_of_zero_le (show 0 ≤ x by omega)
                    have hj : j < ln := by omega
                    obtain ⟨q, hq⟩ := HL3.out.get hj
                    obtain ⟨cq1, cq2⟩ := HL3.out.cell lb lo rfl j q hq
                    obtain ⟨qx, qy⟩ := q
                    rw [Int.toNat_natCast, whyAt hq] at HOK
                    have i3 : (j : Int) < (ln : Int) := by omega
                    have e4 : ((j : Int) != -1) = true := by simp
                    have HQ := Lib.hid hq; clear hq
                    by_cases hpy : py = wrap64 (1 + qy)
                    · rw [← hpy] at HOK
                      have e5 : (py != wrap64 (1 + qy)) = false := by simpa using hpy
                      have HPY := Lib.hid hpy; clear hpy
                      go_wp2_with fail
                      go_roundg (gk - 1)
                      case measure => have := HKK.out; omega
                      case rel => exact ⟨k + 1, by have := HKK.out; omega, by go_num, by rw [HSUCC.out, HOK.out]; simp, HV3.out, HL3.out⟩
                    · have e5 : (py != wrap64 (1 + qy)) = true := by simpa using hpy
                      have e5' : (py == wrap64 (1 + qy)) = false := by simpa using hpy
                      rw [e5'] at HOK
                      have HPY := Lib.hid hpy; clear hpy
                      go_wp2_with fail
                      go_ret
                      exact ⟨by rw [HBF.out, HNO.out HOK.out]; simp, HV3.out.below⟩
              · have e1 : decide (px < 0) = false := by simp; omega
                have e2 : decide ((hn : Int) ≤ px) = true := by simp; omega
                rw [decide_eq_false hp1, Bool.and_false, Bool.false_and] at HOK
                go_wp2_with fail
                go_ret
                exact ⟨by rw [HBF.out, HNO.out HOK.out]; simp, HV2.out.below⟩
            · have e1 : decide (px < 0) = true := by simp; omega
              rw [decide_eq_false hp0, Bool.false_and, Bool.false_and] at HOK
              go_wp2_with fail
              go_ret
              exact ⟨by rw [HBF.out, HNO.out HOK.out]; simp, HV2.out.below⟩
        · obtain rfl : k = ln := by have := HKK.out; omega
          go_wp2_with fail
          go_ret
          exact ⟨by rw [HBF.out, HWT.out]; simp, hV.below⟩
    · have e2 : ((ln : Int) != (pn : Int)) = true := by simp; omega
      rw [decide_eq_false h1] at HBF
      clear h1
      go_wp2_with fail
      go_ret
      exact ⟨by rw [HBF.out]; simp, HV1.out.below⟩
end Go.Proofs.YtkddkkcfpnndlaaDoor

namespace Go.Proofs.YtkddkkcfpnndlaaDoor
open Go.RowKit Sale Tree

def nowOf (o : Outc) (i : Nat) : Option Nat := if o.has.getD i (-1) = -1 then none else some (o.has.getD i (-1)).toNat
def woodOf (m : Mkt) (o : Outc) : Wood := { N := o.prices.length, M := o.has.length, res := resB m o, now := nowOf o, well := fun i j => wellB m o i j }
theorem FitOk.now {m : Mkt} {o : Outc} (h : FitOk m o) : ∀ i k, (woodOf m o).now i = some k → k < (woodOf m o).N := by
  intro i k hk
  have hk' : nowOf o i = some k := hk
  unfold nowOf at hk'
  split at hk'
  · cases hk'
  · rename_i hne
    cases hk'
    show (o.has.getD i (-1)).toNat < o.prices.length
    cases hx : o.has[i]? with
    | none => exact absurd (by rw [List.getD_eq_getElem?_getD, hx]; rfl) hne
    | some x =>
      rw [getD_at hx] at hne ⊢
      have := h.item x (List.mem_of_getElem? hx)
      have := h.plen
      omega
/-- what is found: an item's reason, or none as it is made -/
def outL (n : Nat) (s : Sta) : List (Int × Int) := (List.range n).map fun j => match s j with | some p => (p.1, (p.2 : Int)) | none => (-1, 0)
theorem outL_get {n : Nat} {s : Sta} {j : Nat} (hj : j < n) : (outL n s)[j]? = some (match s j with | some p => (p.1, (p.2 : Int)) | none => (-1, 0)) := by simp [outL, hj]
theorem outL_length (n : Nat) (s : Sta) : (outL n s).length = n := by simp [outL]
/-- all have a reason -/
def allB (W : Wood) : Bool := (List.range W.N).all fun j => (lv W W.N j).isSome
theorem all_of {W : Wood} {n : Nat} (hnow : ∀ i k, W.now i = some k → k < W.N) (h : ∀ j, j < W.N → ∃ x, lv W n j = some x) : allB W = true ∧ ∀ j, j < W.N → lv W W.N j = lv W n j := by
  have key : ∀ j, j < W.N → lv W W.N j = lv W n j := fun j hj => by
    obtain ⟨⟨b, r⟩, hx⟩ := h j hj
    rw [hx]
    exact lv_keep (lv_at hx) (lv_most hnow hj hx)
  refine ⟨List.all_eq_true.2 fun j hj => ?_, key⟩
  have hj' := List.mem_range.1 hj
  obtain ⟨x, hx⟩ := h j hj'
  rw [key j hj', hx]; rfl
theorem none_of {W : Wood} {n : Nat} (hnow : ∀ i k, W.now i = some k → k < W.N) (hst : ∀ j, j < W.N → lv W (n + 1) j = lv W n j) {j : Nat} (hj : j < W.N) (hn : lv W n j = none) : allB W = false := by
  have h1 : lv W W.N j = none := by
    rcases Nat.lt_or_ge W.N n with h | h
    · cases hx : lv W W.N j with
      | none => rfl
      | some x => rw [lv_keep hx (Nat.le_of_lt h)] at hn; cases hn
    · rw [lv_still hst hnow _ h j hj, hn]
  unfold allB
  rw [List.all_eq_false]
  exact ⟨j, List.mem_range.2 hj, by rw [h1]; simp⟩
end Go.Proofs.YtkddkkcfpnndlaaDoor

namespace Go.Proofs.YtkddkkcfpnndlaaDoor
open Go.RowKit Sale

/-- the world behind the copies of a market and an outcome -/
structure WAt (w : World) (B1 B2 : Nat) (ra ba oa ha pa : Option Addr) (rn rc bn bc on oc hn hc pn pc : Nat) (m : Mkt) (o : Outc) (wr : World) : Prop where
  v1 : VRow wr B1 25 [.slice ra rn rc, .slice ba bn bc, .slice oa on oc]
  v2 : VRow wr B2 27 [.slice ha hn hc, .slice pa pn pc]
  mkt : MktAt wr ra ba oa rn rc bn bc on oc m
  out : OutAt wr ha pa hn hc pn pc o
  below : Below w.heap.size w wr
theorem WAt.step {w : World} {B1 B2 : Nat} {ra ba oa ha pa : Option Addr} {rn rc bn bc on oc hn hc pn pc : Nat} {m : Mkt} {o : Outc} {wr wr' : World} (h : WAt w B1 B2 ra ba oa ha pa rn rc bn bc on oc hn hc pn pc m o wr) (hb : Below wr.heap.size wr wr') : WAt w B1 B2 ra ba oa ha pa rn rc bn bc on oc hn hc pn pc m o wr' :=
  ⟨h.v1.stp hb, h.v2.stp hb, h.mkt.below hb (Nat.le_refl _), h.out.below hb (Nat.le_refl _), h.below.trans (hb.mono h.below.size)⟩
def wa0 (w : World) (ra ba oa ha pa : Option Addr) (rn rc bn bc on oc hn hc pn pc : Nat) : World := (w.alloc (.cells #[.slice ra rn rc, .slice ba bn bc, .slice oa on oc] 25)).alloc (.cells #[.slice ha hn hc, .slice pa pn pc] 27)
theorem WAt.new (w : World) {ra ba oa ha pa : Option Addr} {rn rc bn bc on oc hn hc pn pc : Nat} {m : Mkt} {o : Outc} (hm : MktAt w ra ba oa rn rc bn bc on oc m) (ho : OutAt w ha pa hn hc pn pc o) :
    WAt w w.heap.size (w.heap.size + 1) ra ba oa ha pa rn rc bn bc on oc hn hc pn pc m o (wa0 w ra ba oa ha pa rn rc bn bc on oc hn hc pn pc) := by
  unfold wa0
  have hb : Below w.heap.size w ((w.alloc (.cells #[.slice ra rn rc, .slice ba bn bc, .slice oa on oc] 25)).alloc (.cells #[.slice ha hn hc, .slice pa pn pc] 27)) :=
    ((Below.refl _ w).alloc (Nat.le_refl _) _).alloc (by simp) _
  have h1 := VRow.new w 25 [.slice ra rn rc, .slice ba bn bc, .slice oa on oc]
  have h2 := VRow.new (w.alloc (.cells #[.slice ra rn rc, .slice ba bn bc, .slice oa on oc] 25)) 27 [.slice ha hn hc, .slice pa pn pc]
  rw [show (w.alloc (.cells #[.slice ra rn rc, .slice ba bn bc, .slice oa on oc] 25)).heap.size = w.heap.size + 1 by simp] at h2
  exact ⟨h1.alloc _, h2, hm.below hb (Nat.le_refl _), ho.below hb (Nat.le_refl _), hb⟩

/-- lengths that are not too great -/
structure Short (rn bn on : Nat) (m : Mkt) : Prop where
  r : rn ≤ 17592186044416
  b : bn ≤ 17592186044416
  o : on ≤ 17592186044416
  x : ∀ xs, xs ∈ m.bids → xs.length ≤ 17592186044416

set_option maxRecDepth 100000 in
set_option maxHeartbeats 2000000 in
theorem fits16_any (ra ba oa ha pa : Option Addr) (rn rc bn bc on oc hn hc pn pc : Nat) (m : Mkt) (o : Outc) (w : World) (hm : MktAt w ra ba oa rn rc bn bc on oc m) (ho : OutAt w ha pa hn hc pn pc o) (hs : Short rn bn on m) :
    Calls Tryd.prog 24 #[.agg #[.slice ra rn rc, .slice ba bn bc, .slice oa on oc], .agg #[.slice ha hn hc, .slice pa pn pc]] w fun e w' => e = .returned (.bool (ofitsB m o)) ∧ Below w.heap.size w w' := by
  have hv0 := WAt.new w hm ho
  have hhl := ho.has.len
  have hpl := ho.prices.len
  have hbl := hm.bids.len
  have hrl := hm.res.len
  clear hm ho
  obtain ⟨w1, hw1⟩ : ∃ w1, w1 = wa0 w ra ba oa ha pa rn rc bn bc on oc hn hc pn pc := ⟨_, rfl⟩
  rw [← hw1] at hv0
  have hw1' : (w.alloc (.cells #[.slice ra rn rc, .slice ba bn bc, .slice oa on oc] 25)).alloc (.cells #[.slice ha hn hc, .slice pa pn pc] 27) = w1 := hw1.symm
  clear hw1
  have c0 := hv0.v1.cell (k := 0) rfl
  have c1 := hv0.v1.cell (k := 1) rfl
  have c2 := hv0.v1.cell (k := 2) rfl
  have HV0 := Lib.hid hv0; clear hv0
  have HS := Lib.hid hs; clear hs
  obtain ⟨bf, hbf⟩ : ∃ bf, bf = ofitsB m o := ⟨_, rfl⟩
  rw [← hbf]
  have hE : bf = (mcheck m && (decide (hn = bn) && (decide (pn = rn) && ofitTo o hn))) := by rw [hbf, ofitsB, hhl, hbl, hpl, hrl]
  have HBF := Lib.hid hE; clear hE hbf
  have HL := Lib.hid (And.intro hhl (And.intro hpl (And.intro hbl hrl))); clear hhl hpl hbl hrl
  obtain ⟨mv, hmv⟩ : ∃ mv, mcheck m = mv := ⟨_, rfl⟩
  have HMV := Lib.hid hmv; clear hmv
  go_enter Tryd.func24, Tryd.ntmps24
  go_wp2_with fail
  try rw [hw1']
  clear hw1'
  refine (ref05_any ra ba oa rn rc bn bc on oc m w1 HV0.out.mkt HS.out.r HS.out.b HS.out.o HS.out.x).mono ?_
  rw [HMV.out]
  rintro e w2 ⟨rfl, hb2⟩
  have HV2 := Lib.hid (HV0.out.step hb2); clear hb2 c0 c1 c2
  have c0 := HV2.out.v1.cell (k := 0) rfl
  have c1 := HV2.out.v1.cell (k := 1) rfl
  have d0 := HV2.out.v2.cell (k := 0) rfl
  have d1 := HV2.out.v2.cell (k := 1) rfl
  cases mv with
  | false =>
    have hv : bf = false := by rw [HBF.out, HMV.out]; rfl
    subst hv
    go_wp2_with fail
    go_ret
    exact ⟨rfl, HV2.out.below⟩
  | true =>
  by_cases g1 : hn = bn
  case neg =>
    have hv : bf = false := by rw [HBF.out, decide_eq_false g1]; simp
    subst hv
    have f3 : ((hn : Int) != (bn : Int)) = true := by simp; omega
    have f4 : (hn != bn) = true := by simp; omega
    clear g1
    go_wp2_with fail
    go_ret
    exact ⟨rfl, HV2.out.below⟩
  subst g1
  by_cases g2 : pn = rn
  case neg =>
    have hv : bf = false := by rw [HBF.out, decide_eq_false g2]; simp
    subst hv
    have f3 : ((pn : Int) != (rn : Int)) = true := by simp; omega
    have f4 : (pn != rn) = true := by simp; omega
    clear g2
    go_wp2_with fail
    go_ret
    exact ⟨rfl, HV2.out.below⟩
  subst g2
  have hv : bf = ofitTo o hn := by rw [HBF.out, HMV.out]; simp
  have HBV := Lib.hid hv; clear hv
  have hb44 := HS.out.b
  go_wp2_with fail
  go_loopg [5] hn (fun g s5 wr => ∃ k : Nat, k + g = hn ∧ s5 = .int .i64 k ∧ ofitTo o k = true ∧ Below w2.heap.size w2 wr)
  case atStart => exact ⟨0, by omega, rfl, by simp [ofitTo], Below.refl _ _⟩
  case round =>
    obtain ⟨k, hk, rfl, ht, hB⟩ := hrel
    have HK := Lib.hid hk; clear hk
    have HT := Lib.hid ht; clear ht
    have d0w := cell_step00 hB d0
    have d1w := cell_step00 hB d1
    have HVR := Lib.hid (HV2.out.step hB)
    have HB := Lib.hid hB; clear hB
    by_cases hlt : k < hn
    · obtain ⟨x, hx, hbd1, hbd2⟩ := HVR.out.out.has.get hlt
      obtain ⟨hb', ho', rfl⟩ := HVR.out.out.has.addr (by omega)
      have cx := HVR.out.out.has.cell hb' ho' rfl k x hx
      have hsn := ofitTo_succ hx
      rw [HT.out, HL.out.2.1] at hsn
      have hno := ofitTo_no hx
      rw [HL.out.1, HL.out.2.1] at hno
      have HSN := Lib.hid hsn; clear hsn
      have HNO := Lib.hid hno; clear hno hx
      have i1 : (k : Int) < (hn : Int) := by omega
      by_cases h1 : x < -1
      · have hv : bf = false := by rw [HBV.out]; exact HNO.out (.inl h1)
        subst hv
        have e1 : decide (x < -1) = true := by simpa using h1
        go_wp2_with fail
        go_quiet (fail)
        go_wp2_with fail
        go_ret
        exact ⟨rfl, below_drewN HVR.out.below _⟩
      · have e1 : decide (x < -1) = false := by simpa using h1
        by_cases h2 : (pn : Int) ≤ x
        · have hv : bf = false := by rw [HBV.out]; exact HNO.out (.inr h2)
          subst hv
          have e2 : decide ((pn : Int) ≤ x) = true := by simpa using h2
          go_wp2_with fail
          go_quiet (fail)
          go_wp2_with fail
          go_ret
          exact ⟨rfl, below_drewN HVR.out.below _⟩
        · have e2 : decide ((pn : Int) ≤ x) = false := by simpa using h2
          go_wp2_with fail
          go_quiet (fail)
          go_wp2_with fail
          go_roundg (gk - 1)
          case measure => have := HK.out; omega
          case rel => exact ⟨k + 1, by have := HK.out; omega, by go_num, by rw [HSN.out]; simp; omega, below_drewN HB.out _⟩
    · obtain rfl : k = hn := by have := HK.out; omega
      have hv : bf = true := by rw [HBV.out]; exact HT.out
      subst hv
      go_wp2_with fail
      go_ret
      exact ⟨rfl, HVR.out.below⟩

set_option maxRecDepth 100000 in
set_option maxHeartbeats 2000000 in
theorem well16_any (ra ba oa ha pa : Option Addr) (rn rc bn bc on oc hn hc pn pc : Nat) (m : Mkt) (o : Outc) (w : World) (hm : MktAt w ra ba oa rn rc bn bc on oc m) (ho : OutAt w ha pa hn hc pn pc o) (hf : FitOk m o) (i : Nat) (hi : i < bn) (k : Nat) (hk : k < rn) :
    Calls Tryd.prog 25 #[.agg #[.slice ra rn rc, .slice ba bn bc, .slice oa on oc], .agg #[.slice ha hn hc, .slice pa pn pc], .int .i64 i, .int .i64 k] w fun e w' => e = .returned (.bool (wellB m o i k)) ∧ Below w.heap.size w w' := by
  have hv0 := WAt.new w hm ho
  have hhn : hn = bn := by rw [← ho.has.len, ← hm.bids.len]; exact hf.hlen
  have hpn : pn = rn := by rw [← ho.prices.len, ← hm.res.len]; exact hf.plen
  have hrl := hm.res.len
  clear hm ho
  subst hhn
  subst hpn
  obtain ⟨w1, hw1⟩ : ∃ w1, w1 = wa0 w ra ba oa ha pa pn rc hn bc on oc hn hc pn pc := ⟨_, rfl⟩
  rw [← hw1] at hv0
  have hw1' : (w.alloc (.cells #[.slice ra pn rc, .slice ba hn bc, .slice oa on oc] 25)).alloc (.cells #[.slice ha hn hc, .slice pa pn pc] 27) = w1 := hw1.symm
  clear hw1
  obtain ⟨b, hb⟩ := hv0.mkt.bids.get hi
  obtain ⟨x, hx, _⟩ := hv0.out.has.get hi
  obtain ⟨bb, bo, rfl⟩ := hv0.mkt.bids.addr (by omega)
  obtain ⟨hb', ho', rfl⟩ := hv0.out.has.addr (by omega)
  obtain ⟨la, ln, lc, hcl, hli⟩ := hv0.mkt.bids.cell bb bo rfl i b hb
  have cx := hv0.out.has.cell hb' ho' rfl i x hx
  have hll := hli.len
  have hxb := hf.item x (List.mem_of_getElem? hx)
  rw [hrl] at hxb
  obtain ⟨hx1, hx2⟩ := hxb
  have hv : wellB m o i k = (decide (0 < ln) && ((x != (k : Int)) && (byV m o i x == byV m o i k))) := by
    unfold wellB
    rw [bids_at hb, getD_at hx, hll]
  have hbid := hf.mok.bid b (List.mem_of_getElem? hb)
  obtain ⟨bf, hbf⟩ : ∃ bf, bf = wellB m o i k := ⟨_, rfl⟩
  rw [← hbf]
  rw [hv] at hbf
  have HBF := Lib.hid hbf; clear hbf hv
  have i1 : (i : Int) < (hn : Int) := by omega
  have c1 := hv0.v1.cell (k := 1) rfl
  have d0 := hv0.v2.cell (k := 0) rfl
  have d1 := hv0.v2.cell (k := 1) rfl
  have HV0 := Lib.hid hv0; clear hv0
  have HF := Lib.hid hf; clear hf
  have HX := Lib.hid hx; clear hx
  have HBI := Lib.hid hb; clear hb
  have HBB := Lib.hid hbid; clear hbid
  have HLL := Lib.hid hll; clear hll
  have HRL := Lib.hid hrl; clear hrl
  by_cases h0 : ln = 0
  · subst h0
    have hv : bf = false := by rw [HBF.out]; simp
    subst hv
    clear hli
    go_enter Tryd.func25, Tryd.ntmps25
    go_wp2_with fail
    try rw [hw1']
    clear hw1'
    go_wp2_with fail
    go_ret
    exact ⟨rfl, HV0.out.below⟩
  have e0 : ((ln : Int) == 0) = false := by simp; omega
  have e0' : (ln == 0) = false := by simp; omega
  by_cases h1 : x = (k : Int)
  · subst h1
    have hv : bf = false := by rw [HBF.out]; simp
    subst hv
    clear hli h0
    go_enter Tryd.func25, Tryd.ntmps25
    go_wp2_with fail
    try rw [hw1']
    clear hw1'
    go_wp2_with fail
    go_ret
    exact ⟨rfl, HV0.out.below⟩
  have e1 : (x == (k : Int)) = false := by simpa using h1
  have hln : ln = pn := by
    rcases HBB.out with h | ⟨h, _⟩
    · have := HLL.out; rw [h] at this; simp at this; omega
    · have := HLL.out; have := HRL.out; omega
  subst hln
  obtain ⟨y, hy, hyb⟩ := hli.get hk
  obtain ⟨lb, lo, rfl⟩ := hli.addr (by omega)
  have cy := hli.cell lb lo rfl k y hy
  obtain ⟨p, hp, hpb⟩ := HV0.out.out.prices.get hk
  obtain ⟨pb, po, rfl⟩ := HV0.out.out.prices.addr (by omega)
  have cp := HV0.out.out.prices.cell pb po rfl k p hp
  have hbk : byV m o i k = wrap64 (y - p) := by
    unfold byV bidAt
    rw [if_neg (by omega), Int.toNat_natCast, bids_at HBI.out, getD_at hy, getD_at hp]
  have HBK := Lib.hid hbk; clear hbk hy hp
  have i2 : (k : Int) < (ln : Int) := by omega
  by_cases h2 : x = -1
  · subst h2
    have e2 : decide (0 ≤ (-1 : Int)) = false := by simp
    have hb0 : byV m o i (-1) = 0 := by unfold byV; simp
    have HB0 := Lib.hid hb0; clear hb0
    clear hli h0 h1
    go_enter Tryd.func25, Tryd.ntmps25
    go_wp2_with fail
    try rw [hw1']
    clear hw1'
    go_wp2_with fail
    go_quiet (fail)
    go_wp2_with fail
    go_ret
    refine ⟨ret_bool ?_, below_drewN HV0.out.below _⟩
    rw [HBF.out, HB0.out, HBK.out]
    rw [decide_eq_true (show 0 < ln by omega), show ((-1 : Int) != (k : Int)) = true from by simp only [bne_iff_ne, ne_eq]; omega]; rfl
  obtain ⟨j, rfl⟩ := Int.eq_ofNat_of_zero_le (show 0 ≤ x by omega)
  obtain ⟨z, hz, hzb⟩ := hli.get (show j < ln by omega)
  have cz := hli.cell lb lo rfl j z hz
  obtain ⟨q, hq, hqb⟩ := HV0.out.out.prices.get (show j < ln by omega)
  have cq := HV0.out.out.prices.cell pb po rfl j q hq
  have hbj : byV m o i (j : Int) = wrap64 (z - q) := by
    unfold byV bidAt
    rw [if_neg (by omega), Int.toNat_natCast, bids_at HBI.out, getD_at hz, getD_at hq]
  have HBJ := Lib.hid hbj; clear hbj hz hq
  have i3 : (j : Int) < (ln : Int) := by omega
  clear hli h0 h2
  have H1 := Lib.hid h1; clear h1
  go_enter Tryd.func25, Tryd.ntmps25
  go_wp2_with fail
  try rw [hw1']
  clear hw1'
  go_wp2_with fail
  go_quiet (fail)
  go_wp2_with fail
  go_quiet (fail)
  go_wp2_with fail
  go_ret
  refine ⟨ret_bool ?_, below_drewN (below_drewN HV0.out.below _) _⟩
  rw [HBF.out, HBJ.out, HBK.out]
  have h1' := H1.out
  rw [decide_eq_true (show 0 < ln by omega), show ((j : Int) != (k : Int)) = true from by simp only [bne_iff_ne, ne_eq]; omega]; rfl
end Go.Proofs.YtkddkkcfpnndlaaDoor

namespace Go.Proofs.YtkddkkcfpnndlaaDoor
open Go.RowKit Sale

set_option maxRecDepth 100000 in
set_option maxHeartbeats 4000000 in
theorem check16_any (ra ba oa ha pa la : Option Addr) (rn rc bn bc on oc hn hc pn pc ln lc : Nat) (m : Mkt) (o : Outc) (l : List (Int × Int)) (w : World) (hm : MktAt w ra ba oa rn rc bn bc on oc m) (ho : OutAt w ha pa hn hc pn pc o) (hl : Whys w la ln lc l) (hs : Short rn bn on m) :
    Calls Tryd.prog 11 #[.agg #[.slice ra rn rc, .slice ba bn bc, .slice oa on oc], .agg #[.slice ha hn hc, .slice pa pn pc], .slice la ln lc] w fun e w' => e = .returned (.bool (checkB m o l)) ∧ Below w.heap.size w w' := by
  have hv0 := WAt.new w hm ho
  have hlb := hl.len
  have hhl := ho.has.len
  have hpl := ho.prices.len
  obtain ⟨w1, hw1⟩ : ∃ w1, w1 = wa0 w ra ba oa ha pa rn rc bn bc on oc hn hc pn pc := ⟨_, rfl⟩
  rw [← hw1] at hv0
  have hw1' : (w.alloc (.cells #[.slice ra rn rc, .slice ba bn bc, .slice oa on oc] 25)).alloc (.cells #[.slice ha hn hc, .slice pa pn pc] 27) = w1 := hw1.symm
  clear hw1 hm ho
  have hl0 := hl.below hv0.below (Nat.le_refl _)
  obtain ⟨bf, hbf⟩ : ∃ bf, bf = checkB m o l := ⟨_, rfl⟩
  rw [← hbf]
  unfold checkB at hbf
  rw [hlb, hpl] at hbf
  have HBF := Lib.hid hbf; clear hbf
  have c0 := hv0.v1.cell (k := 0) rfl
  have c1 := hv0.v1.cell (k := 1) rfl
  have c2 := hv0.v1.cell (k := 2) rfl
  have d0 := hv0.v2.cell (k := 0) rfl
  have d1 := hv0.v2.cell (k := 1) rfl
  have HV0 := Lib.hid hv0; clear hv0
  have HL0 := Lib.hid hl0; clear hl0 hl
  have HS := Lib.hid hs; clear hs
  have HHL := Lib.hid hhl; clear hhl
  have HPL := Lib.hid hpl; clear hpl
  have HLB := Lib.hid hlb; clear hlb
  go_enter Tryd.func11, Tryd.ntmps11
  go_wp2_with fail
  try rw [hw1']
  clear hw1'
  refine (fits16_any ra ba oa ha pa rn rc bn bc on oc hn hc pn pc m o w1 HV0.out.mkt HV0.out.out HS.out).mono ?_
  rintro e w2 ⟨rfl, hb⟩
  have HV1 := Lib.hid (HV0.out.step hb)
  have HL1 := Lib.hid (HL0.out.below hb (Nat.le_refl _)); clear hb HL0 c0 c1 c2 d0 d1
  obtain ⟨fb, hfb⟩ : ∃ fb, fb = ofitsB m o := ⟨_, rfl⟩
  rw [← hfb] at HBF ⊢
  have d1 := HV1.out.v2.cell (k := 1) rfl
  have HFB := Lib.hid hfb; clear hfb
  cases fb with
  | false =>
    go_wp2_with fail
    go_ret
    exact ⟨by rw [HBF.out]; rfl, HV1.out.below⟩
  | true =>
    have hfit := ofitsB_ok HFB.out.symm
    clear HFB
    by_cases h1 : ln = pn
    case neg =>
      have hv : bf = false := by rw [HBF.out, decide_eq_false h1]; simp
      subst hv
      have f3 : ((ln : Int) != (pn : Int)) = true := by simp; omega
      have f4 : (ln != pn) = true := by simp; omega
      clear h1 hfit
      go_wp2_with fail
      go_ret
      exact ⟨rfl, HV1.out.below⟩
    subst h1
    have hrn : ln = rn := by rw [← HV1.out.mkt.res.len, ← hfit.plen, HPL.out]
    have hhn : hn = bn := by rw [← HV1.out.mkt.bids.len, ← hfit.hlen, HHL.out]
    have hn8 := hfit.mok.n8
    have hm8 := hfit.mok.m8
    rw [HV1.out.mkt.res.len] at hn8
    rw [HV1.out.mkt.bids.len] at hm8
    have HFIT := Lib.hid hfit; clear hfit
    subst hrn
    subst hhn
    clear HV0
    obtain ⟨B1, hB1⟩ : ∃ B1, B1 = w.heap.size := ⟨_, rfl⟩
    obtain ⟨B2, hB2⟩ : ∃ B2, B2 = w.heap.size + 1 := ⟨_, rfl⟩
    have HV1' := Lib.hid (show WAt w B1 B2 ra ba oa ha pa ln rc hn bc on oc hn hc ln pc m o w2 by rw [hB1, hB2]; exact HV1.out)
    rw [← hB2] at d1
    rw [← hB2, ← hB1]
    clear hB1 hB2 HV1
    go_wp2_with fail
    clear d1
    go_loopg [7, 8, 9] ln (fun g' s7 s8 s9 wr => ∃ k : Nat, k + g' = ln ∧ s7 = .int .i64 k ∧ whyTo m o l k = true ∧ WAt w B1 B2 ra ba oa ha pa ln rc hn bc on oc hn hc ln pc m o wr ∧ Whys wr la ln lc l)
    case atStart => exact ⟨0, by omega, rfl, rfl, HV1'.out, HL1.out⟩
    case round =>
      obtain ⟨k, hk, rfl, hwt, hV, hL⟩ := hrel
      have HKK := Lib.hid hk; clear hk
      have HWT := Lib.hid hwt; clear hwt
      by_cases hlt : k < ln
      · obtain ⟨p, hp⟩ := hL.get hlt
        obtain ⟨lb, lo, rfl⟩ := hL.addr (by omega)
        obtain ⟨cp1, cp2⟩ := hL.cell lb lo rfl k p hp
        have q0 := hV.v1.cell (k := 0) rfl
        have q1 := hV.v1.cell (k := 1) rfl
        have q2 := hV.v1.cell (k := 2) rfl
        have r0 := hV.v2.cell (k := 0) rfl
        have r1 := hV.v2.cell (k := 1) rfl
        have i1 : (k : Int) < (ln : Int) := by omega
        obtain ⟨pr, hpr, _⟩ := hV.out.prices.get hlt
        obtain ⟨prb, pro, rfl⟩ := hV.out.prices.addr (by omega)
        have cpr := hV.out.prices.cell prb pro rfl k pr hpr
        obtain ⟨rr, hrr, _⟩ := hV.mkt.res.get hlt
        obtain ⟨rrb, rro, rfl⟩ := hV.mkt.res.addr (by omega)
        have crr := hV.mkt.res.cell rrb rro rfl k rr hrr
        have HV := Lib.hid hV; clear hV
        have HL := Lib.hid hL; clear hL
        have HP := Lib.hid hp; clear hp
        obtain ⟨px, py⟩ := p
        have hno := fun h : okWhy m o l k = false => whyTo_no h (n := ln) hlt
        have hok : okWhy m o l k = if (pr == rr) = true then (px, py) == (-1, 0) else (decide (0 ≤ px) && decide (px < (hn : Int))) && (wellB m o px.toNat k && py == rankOf o l px) := by
          unfold okWhy resB; rw [whyAt HP.out, HHL.out, getD_at hpr, getD_at hrr]
        have HNO := Lib.hid hno; clear hno
        have hsucc := whyTo_succ m o l k
        rw [HWT.out, Bool.true_and] at hsucc
        have HSUCC := Lib.hid hsucc; clear hsucc hpr hrr
        by_cases hrb : pr = rr
        · have e0 : (pr == rr) = true := by simpa using hrb
          rw [if_pos e0] at hok
          have HOK := Lib.hid hok; clear hok hrb
          by_cases hpe : px = -1 ∧ py = 0
          · obtain ⟨rfl, rfl⟩ := hpe
            go_wp2_with fail
            go_quiet (fail)
            go_wp2_with fail
            go_roundg (gk - 1)
            case measure => have := HKK.out; omega
            case rel => exact ⟨k + 1, by have := HKK.out; omega, by go_num, by rw [HSUCC.out, HOK.out]; rfl, HV.out.step (below_drewN (Below.refl _ _) _), HL.out.below (below_drewN (Below.refl _ _) _) (Nat.le_refl _)⟩
          · have hne : ((px, py) == ((-1, 0) : Int × Int)) = false := by simpa using hpe
            rw [hne] at HOK
            clear hne
            by_cases hp1 : px = -1
            · have hp2 : ¬ py = 0 := fun e => hpe ⟨hp1, e⟩
              have e3 : (py != 0) = true := by simpa using hp2
              subst hp1
              clear hpe hp2
              go_wp2_with fail
              go_quiet (fail)
              go_wp2_with fail
              go_ret
              exact ⟨by rw [HBF.out, HNO.out HOK.out]; simp, below_drewN HV.out.below _⟩
            · have e3 : (px != -1) = true := by simpa using hp1
              clear hpe hp1
              go_wp2_with fail
              go_quiet (fail)
              go_wp2_with fail
              go_ret
              exact ⟨by rw [HBF.out, HNO.out HOK.out]; simp, below_drewN HV.out.below _⟩
        · have e0 : (pr == rr) = false := by simpa using hrb
          rw [if_neg (by rw [e0]; decide)] at hok
          have HOK := Lib.hid hok; clear hok hrb
          by_cases hp0 : 0 ≤ px
          case neg =>
            have hv : bf = false := by rw [HBF.out, HNO.out (by rw [HOK.out, decide_eq_false hp0]; simp)]; simp
            subst hv
            have e1 : decide (px < 0) = true := by simp; omega
            clear hp0
            go_wp2_with fail
            go_quiet (fail)
            go_wp2_with fail
            go_ret
            exact ⟨rfl, below_drewN HV.out.below _⟩
          have e1 : decide (px < 0) = false := by simp; omega
          by_cases hp1 : px < (hn : Int)
          case neg =>
            have hv : bf = false := by rw [HBF.out, HNO.out (by rw [HOK.out, decide_eq_false hp1]; simp)]; simp
            subst hv
            have e2 : decide ((hn : Int) ≤ px) = true := by simp; omega
            clear hp1
            go_wp2_with fail
            go_quiet (fail)
            go_wp2_with fail
            go_ret
            exact ⟨rfl, below_drewN HV.out.below _⟩
          obtain ⟨b, rfl⟩ := Int.eq_ofNat_of_zero_le hp0
          have hbn : b < hn := by omega
          have e2 : decide ((hn : Int) ≤ (b : Int)) = false := by simp; omega
          have e2' : decide (hn ≤ b) = false := by simp; omega
          clear hp0
          go_wp2_with fail
          go_quiet (fail)
          have HVd := Lib.hid (HV.out.step (below_drewN (Below.refl _ _) nq))
          have HLd := Lib.hid (HL.out.below (below_drewN (Below.refl wr.heap.size wr) nq) (Nat.le_refl _))
          go_wp2_with fail
          refine (well16_any (some ⟨rrb, rro, none⟩) ba oa ha (some ⟨prb, pro, none⟩) ln rc hn bc on oc hn hc ln pc m o _ HVd.out.mkt HVd.out.out HFIT.out b hbn k hlt).mono ?_
          rintro e w3 ⟨rfl, hb3⟩
          rw [Int.toNat_natCast] at HOK
          have HV3 := Lib.hid (HVd.out.step hb3)
          have HL3 := Lib.hid (HLd.out.below hb3 (Nat.le_refl _))
          clear HVd HLd HV HL q0 q1 q2 r0 r1 cpr crr
          have cp1' := (HL3.out.cell lb lo rfl k _ HP.out).1
          have cp2' := (HL3.out.cell lb lo rfl k _ HP.out).2
          clear hb3
          have p0 := HV3.out.v2.cell (k := 0) rfl
          obtain ⟨wb, hwb⟩ : ∃ wb, wb = wellB m o b k := ⟨_, rfl⟩
          rw [← hwb] at HOK ⊢
          clear hwb
          cases wb with
          | false =>
            rw [Bool.false_and, Bool.and_false] at HOK
            have hv : bf = false := by rw [HBF.out, HNO.out HOK.out]; simp
            subst hv
            go_wp2_with fail
            go_ret
            exact ⟨rfl, HV3.out.below⟩
          | true =>
            rw [Bool.true_and, decide_eq_true hp1, decide_eq_true (show (0 : Int) ≤ (b : Int) by omega), Bool.true_and, Bool.true_and] at HOK
            obtain ⟨x, hx, _⟩ := HV3.out.out.has.get hbn
            obtain ⟨hab, hao, rfl⟩ := HV3.out.out.has.addr (by omega)
            have cx := HV3.out.out.has.cell hab hao rfl b x hx
            have hxb := HFIT.out.item x (List.mem_of_getElem? hx)
            rw [HV3.out.mkt.res.len] at hxb
            have hro : rankOf o l (b : Int) = if x = -1 then 1 else wrap64 ((l.getD x.toNat (0, 0)).2 + 1) := by
              unfold rankOf; rw [Int.toNat_natCast, getD_at hx, Int.add_comm]
            have i2 : (b : Int) < (hn : Int) := by omega
            have HX := Lib.hid hx; clear hx
            rw [hro] at HOK
            clear hro
            obtain ⟨hxb1, hxb2⟩ := hxb
            by_cases hx1 : x = -1
            · rw [if_pos hx1] at HOK
              subst hx1
              have e6 : decide (0 ≤ (-1 : Int)) = false := by simp
              by_cases hpy : py = 1
              · subst hpy
                go_wp2_with fail
                go_roundg (gk - 1)
                case measure => have := HKK.out; omega
                case rel => exact ⟨k + 1, by have := HKK.out; omega, by go_num, by rw [HSUCC.out, HOK.out]; rfl, HV3.out, HL3.out⟩
              · have e3 : (py != 1) = true := by simpa using hpy
                have e3' : (py == 1) = false := by simpa using hpy
                rw [e3'] at HOK
                have hv : bf = false := by rw [HBF.out, HNO.out HOK.out]; simp
                subst hv
                clear hpy
                go_wp2_with fail
                go_ret
                exact ⟨rfl, HV3.out.below⟩
            · rw [if_neg hx1] at HOK
              obtain ⟨j, rfl⟩ := Int.eq_ofNat_of_zero_le (show 0 ≤ x by omega)
              have hj : j < ln := by omega
              obtain ⟨q, hq⟩ := HL3.out.get hj
              obtain ⟨cq1, cq2⟩ := HL3.out.cell lb lo rfl j q hq
              obtain ⟨qx, qy⟩ := q
              rw [Int.toNat_natCast, whyAt hq] at HOK
              have i3 : (j : Int) < (ln : Int) := by omega
              have HQ := Lib.hid hq; clear hq hx1
              by_cases hpy : py = wrap64 (qy + 1)
              · have e5 : (py != wrap64 (qy + 1)) = false := by simpa using hpy
                have e5' : (py == wrap64 (qy + 1)) = true := by simpa using hpy
                have HPY := Lib.hid e5'; clear hpy e5'
                go_wp2_with fail
                go_roundg (gk - 1)
                case measure => have := HKK.out; omega
                case rel => exact ⟨k + 1, by have := HKK.out; omega, by go_num, by rw [HSUCC.out, HOK.out]; exact HPY.out, HV3.out, HL3.out⟩
              · have e5 : (py != wrap64 (qy + 1)) = true := by simpa using hpy
                have e5' : (py == wrap64 (qy + 1)) = false := by simpa using hpy
                have hv : bf = false := by rw [HBF.out, HNO.out (by rw [HOK.out]; exact e5')]; simp
                subst hv
                clear hpy e5'
                go_wp2_with fail
                go_ret
                exact ⟨rfl, HV3.out.below⟩
      · obtain rfl : k = ln := by have := HKK.out; omega
        have hv : bf = true := by rw [HBF.out, HWT.out]; simp
        subst hv
        go_wp2_with fail
        go_ret
        exact ⟨rfl, hV.below⟩
end Go.Proofs.YtkddkkcfpnndlaaDoor

namespace Go.Proofs.YtkddkkcfpnndlaaDoor
open Go.RowKit

def pairVals : List (Int × Int) → List Value
  | [] => []
  | p :: l => .int .i64 p.1 :: .int .i64 p.2 :: pairVals l
theorem pairVals_get : ∀ {l : List (Int × Int)} {k : Nat} {p : Int × Int}, l[k]? = some p → (pairVals l)[k * 2]? = some (.int .i64 p.1) ∧ (pairVals l)[k * 2 + 1]? = some (.int .i64 p.2)
  | [], k, p, h => by simp at h
  | q :: l, 0, p, h => by simp at h; subst h; exact ⟨rfl, rfl⟩
  | q :: l, k + 1, p, h => by
    have := pairVals_get (l := l) (k := k) (p := p) (by simpa using h)
    rw [show (k + 1) * 2 = k * 2 + 1 + 1 by omega]
    exact this
theorem pairVals_set1 : ∀ {l : List (Int × Int)} {k : Nat} {p : Int × Int} (x : Int), l[k]? = some p → (pairVals l).set (k * 2) (.int .i64 x) = pairVals (l.set k (x, p.2))
  | [], k, p, x, h => by simp at h
  | q :: l, 0, p, x, h => by simp at h; subst h; rfl
  | q :: l, k + 1, p, x, h => by
    have := pairVals_set1 (l := l) (k := k) (p := p) x (by simpa using h)
    rw [show (k + 1) * 2 = k * 2 + 1 + 1 by omega]
    simp only [pairVals, List.set_cons_succ]
    rw [this]
theorem pairVals_set2 : ∀ {l : List (Int × Int)} {k : Nat} {p : Int × Int} (y : Int), l[k]? = some p → (pairVals l).set (k * 2 + 1) (.int .i64 y) = pairVals (l.set k (p.1, y))
  | [], k, p, x, h => by simp at h
  | q :: l, 0, p, x, h => by simp at h; subst h; rfl
  | q :: l, k + 1, p, x, h => by
    have := pairVals_set2 (l := l) (k := k) (p := p) x (by simpa using h)
    rw [show (k + 1) * 2 + 1 = k * 2 + 1 + 1 + 1 by omega]
    simp only [pairVals, List.set_cons_succ]
    rw [this]
theorem pairVals_zeros : ∀ n : Nat, pairVals (List.replicate n (0, 0)) = List.replicate (n * 2) (Value.int .i64 0)
  | 0 => rfl
  | n + 1 => by
    rw [List.replicate_succ, show (n + 1) * 2 = n * 2 + 1 + 1 by omega, List.replicate_succ, List.replicate_succ]
    show _ :: _ :: pairVals (List.replicate n (0, 0)) = _
    rw [pairVals_zeros n]

def WRow (w : World) (B : Nat) (l : List (Int × Int)) : Prop := VRow w B 38 (pairVals l)
theorem WRow.cell {w : World} {B : Nat} {l : List (Int × Int)} (h : WRow w B l) {k : Nat} {p : Int × Int} (hp : l[k]? = some p) : w.cell? ⟨B, k * 2, none⟩ = some (.int .i64 p.1) ∧ w.cell? ⟨B, k * 2 + 1, none⟩ = some (.int .i64 p.2) :=
  ⟨VRow.cell h (pairVals_get hp).1, VRow.cell h (pairVals_get hp).2⟩
theorem WRow.set1 {w : World} {B : Nat} {l : List (Int × Int)} (h : WRow w B l) {k : Nat} {p : Int × Int} (hp : l[k]? = some p) (x : Int) : WRow (w.setCell ⟨B, k * 2, none⟩ (.int .i64 x)) B (l.set k (x, p.2)) := by
  unfold WRow; rw [← pairVals_set1 x hp]; exact VRow.set h _ _
theorem WRow.set2 {w : World} {B : Nat} {l : List (Int × Int)} (h : WRow w B l) {k : Nat} {p : Int × Int} (hp : l[k]? = some p) (y : Int) : WRow (w.setCell ⟨B, k * 2 + 1, none⟩ (.int .i64 y)) B (l.set k (p.1, y)) := by
  unfold WRow; rw [← pairVals_set2 y hp]; exact VRow.set h _ _
theorem WRow.step {w w' : World} {B : Nat} {l : List (Int × Int)} (h : WRow w B l) (hb : Below w.heap.size w w') : WRow w' B l := VRow.stp h hb
theorem WRow.grown {w w' : World} {B : Nat} {l : List (Int × Int)} {row : Option Nat} (h : WRow w B l) (hg : w.grownBy w' row) (hne : row ≠ some B) : WRow w' B l := by
  unfold WRow VRow; rw [hg.block B (VRow.lt h) (fun e => hne e.symm)]; exact h
theorem WRow.whys {w : World} {B : Nat} {l : List (Int × Int)} (h : WRow w B l) (hbig : l.length ≤ 4611686018427387904) (hbd : ∀ p, p ∈ l → (-9223372036854775808 ≤ p.1 ∧ p.1 ≤ 9223372036854775807) ∧ -9223372036854775808 ≤ p.2 ∧ p.2 ≤ 9223372036854775807) : Whys w (some ⟨B, 0, none⟩) l.length l.length l :=
  ⟨rfl, Nat.le_refl _, hbig, fun _ => ⟨_, _, rfl⟩, fun b o e k p hp => by
    cases e
    have := h.cell hp
    rw [Nat.zero_add]
    exact this, hbd⟩

theorem infoWhy : (Tryd.prog.info? 38).map (fun i => (i.zero, i.size, i.bytes)) = some (some (.agg #[.int .i64 0, .int .i64 0]), 2, 16) := by kernel_rfl
theorem made2 (n : Nat) : (madeCells #[Value.int .i64 0, .int .i64 0] n).toList = List.replicate n (.int .i64 0) := by
  apply List.ext_getElem?
  intro j
  by_cases hj : j < n
  · rcases (by omega : j % 2 = 0 ∨ j % 2 = 1) with e | e <;> simp [madeCells, hj, e]
  · simp [madeCells, hj]
/-- 'make([]api.Why, n)' -/
theorem mkWhys (c : Nat) (hc : c ≤ 1000000) (w : World) : (Instr.makeSlice 28 (.int .i64 (c : Int)) (.int .i64 (c : Int))).run Tryd.prog w = .ok (.slice (some ⟨w.heap.size, 0, none⟩) c c) (w.alloc (.cells (pairVals (List.replicate c (0, 0))).toArray 38)) := by
  obtain ⟨i0, hi, hz0, hz1, hz2⟩ := info_parts infoWhy
  have h := run_make (P := Tryd.prog) w 28 38 i0 _ Tryd.underlying28 hi hz0 .i64 .i64 c c (by omega) (by omega) (by rw [hz2]; omega) (by omega)
  rw [hz1] at h
  have e : madeCells (Value.agg #[.int .i64 0, .int .i64 0]).cells (c * 2) = (pairVals (List.replicate c (0, 0))).toArray := by
    rw [pairVals_zeros]
    apply Array.ext'
    exact made2 _
  rw [Int.toNat_natCast, e] at h
  exact h
end Go.Proofs.YtkddkkcfpnndlaaDoor

namespace Go.Proofs.YtkddkkcfpnndlaaDoor
open Go.RowKit Sale

/-- prices above the reserves -/
def qOf (m : Mkt) (prices : List Int) (k : Nat) : Int := prices.getD k 0 - m.res.getD k 0

structure EvOk (m : Mkt) (o : Outc) : Prop where
  fit : FitOk m o
  pr : ∀ k, k < m.res.length → m.res.getD k 0 ≤ o.prices.getD k 0 ∧ o.prices.getD k 0 ≤ 2000000
  even : Even (gi (gainsM m)) m.res.length m.bids.length (qOf m o.prices) (slotOf o.has)

theorem getD_mem {l : List Int} {k : Nat} (h : k < l.length) (d : Int) : l.getD k d ∈ l := by
  rw [List.getD_eq_getElem?_getD, List.getElem?_eq_getElem h]; exact List.getElem_mem _
theorem getD_some {l : List Int} {k : Nat} (h : k < l.length) (d : Int) : l[k]? = some (l.getD k d) := by
  rw [List.getD_eq_getElem?_getD, List.getElem?_eq_getElem h]; rfl

theorem MOk.bid_at {m : Mkt} (h : MOk m) {i : Nat} (hi : i < m.bids.length) : m.bids.getD i [] = [] ∨ ((m.bids.getD i []).length = m.res.length ∧ ∀ k, k < m.res.length → 0 ≤ bidAt m i k ∧ bidAt m i k ≤ 1000000) := by
  have hg : m.bids.getD i [] = m.bids[i] := by rw [List.getD_eq_getElem?_getD, List.getElem?_eq_getElem hi]; rfl
  rcases h.bid _ (List.getElem_mem hi) with e | ⟨h1, h2⟩
  · exact .inl (hg.trans e)
  · refine .inr ⟨by rw [hg]; exact h1, fun k hk => ?_⟩
    unfold bidAt
    rw [hg]
    exact h2 _ (getD_mem (by omega) 0)
/-- what one has by an item, at prices that may be -/
theorem gain_at {m : Mkt} (_h : MOk m) (prices : List Int) {i k : Nat} (hi : i < m.bids.length) (hk : k < m.res.length) :
    gi (gainsM m) i k - qOf m prices k = if m.bids.getD i [] = [] then -1 - qOf m prices k else bidAt m i k - prices.getD k 0 := by
  have hg : m.bids.getD i [] = m.bids[i] := by rw [List.getD_eq_getElem?_getD, List.getElem?_eq_getElem hi]; rfl
  rw [gi_bid hi hk, hg]
  unfold bidAt qOf
  rw [hg]
  split
  · rfl
  · omega
end Go.Proofs.YtkddkkcfpnndlaaDoor
