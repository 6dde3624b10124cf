/- Walks: forests: what a bidder has by an item; would it as well have it; does an item cost its reserve? -/
import Derived.Test.YtbnjeegicbffeaaFo1
import Derived.Test.YtbnjeegicbffeaaKept
import Derived.Test.YtbnjeegicbffeaaEach
namespace Go.Proofs.Ytbnjeegicbffeaa
open Go.RowKit Sale

def bidAt (m : Mkt) (i k : Nat) : Int := (m.bids.getD i []).getD k 0
/-- what it has by an item, as the machine reckons -/
def byV (m : Mkt) (o : Outc) (i : Nat) (x : Int) : Int := if x = -1 then 0 else wrap64 (bidAt m i x.toNat - o.prices.getD x.toNat 0)
def wellB (m : Mkt) (o : Outc) (i : Nat) (k : Int) : Bool := decide (0 < (m.bids.getD i []).length) && ((o.has.getD i (-1) != k) && (byV m o i (o.has.getD i (-1)) == byV m o i k))
def resB (m : Mkt) (o : Outc) (k : Nat) : Bool := o.prices.getD k 0 == m.res.getD k 0
theorem getD_at {l : List Int} {k : Nat} {x d : Int} (h : l[k]? = some x) : l.getD k d = x := by rw [List.getD_eq_getElem?_getD, h]; rfl
theorem bids_at {m : Mkt} {i : Nat} {b : List Int} (h : m.bids[i]? = some b) : m.bids.getD i [] = b := by rw [List.getD_eq_getElem?_getD, h]; rfl

set_option maxRecDepth 100000 in
set_option maxHeartbeats 2000000 in
theorem by_any (ra ba oa ha pa : Option Addr) (rn rc bn bc on oc hn hc pn pc : Nat) (m : Mkt) (o : Outc) (w : World) (hm : MktAt w ra ba oa rn rc bn bc on oc m) (ho : OutAt w ha pa hn hc pn pc o) (hf : FitOk m o) (i : Nat) (b : List Int) (hb : m.bids[i]? = some b) (hb0 : 0 < b.length)
    (x : Int) (hx1 : -1 ≤ x) (hx2 : x < (rn : Int)) :
    Calls Try.prog 67 #[.agg #[.slice ra rn rc, .slice ba bn bc, .slice oa on oc, .slice ha hn hc, .slice pa pn pc], .int .i64 i, .int .i64 x] w fun e w' => e = .returned (.int .i64 (byV m o i x)) ∧ Below w.heap.size w w' := by
  have HB0 := Lib.hid (vw_start w ra ba oa ha pa rn rc bn bc on oc hn hc pn pc)
  obtain ⟨c0, c1, c2, c3, c4, hs, hbw⟩ := vw_kept HB0.out
  have hm1 := hm.below hbw (Nat.le_refl _)
  have ho1 := ho.below hbw (Nat.le_refl _)
  have HBW := Lib.hid hbw; clear hbw
  have hpn : pn = rn := by rw [← ho.prices.len, ← hm.res.len]; exact hf.plen
  subst hpn
  have hib : i < bn := by rw [← hm.bids.len]; exact (List.getElem?_eq_some_iff.1 hb).1
  have hbl : b.length = pn := by
    rcases hf.mok.bid b (List.mem_of_getElem? hb) with e | ⟨e, _⟩
    · rw [e] at hb0; simp at hb0
    · rw [e]; exact hm.res.len
  obtain ⟨bb, bo, rfl⟩ := hm1.bids.addr (by omega)
  obtain ⟨la, ln, lc, hcl, hli⟩ := hm1.bids.cell bb bo rfl i b hb
  have hln : ln = pn := by rw [← hli.len]; exact hbl
  subst hln
  clear hm ho
  have i1 : (i : Int) < (bn : Int) := by omega
  by_cases hx : x = -1
  · subst hx
    go_enter Try.func67, Try.ntmps67
    go_wp2_with fail
    go_ret
    exact ⟨rfl, HBW.out⟩
  · obtain ⟨k, rfl⟩ := Int.eq_ofNat_of_zero_le (show 0 ≤ x by omega)
    have hk : k < ln := by omega
    obtain ⟨y, hy, _⟩ := hli.get hk
    obtain ⟨p, hp, _⟩ := ho1.prices.get hk
    obtain ⟨lb, lo, rfl⟩ := hli.addr (by omega)
    obtain ⟨pb, po, rfl⟩ := ho1.prices.addr (by omega)
    have cy := hli.cell lb lo rfl k y hy
    have cp := ho1.prices.cell pb po rfl k p hp
    have hv : byV m o i (k : Int) = wrap64 (y - p) := by
      unfold byV bidAt
      rw [if_neg hx, Int.toNat_natCast, bids_at hb, getD_at hy, getD_at hp]
    rw [hv]
    have HV := Lib.hid hv; clear hv
    have e1 : ((k : Int) == -1) = false := by simp
    have i2 : (k : Int) < (ln : Int) := by omega
    clear hy hp hb hli ho1 hm1 hx hx1 hx2 hbl
    simp only [vw] at c0 c1 c2 c3 c4 hcl cy cp
    go_enter Try.func67, Try.ntmps67
    go_wp2_with fail
    go_quiet (fail)
    go_wp2_with fail
    go_ret
    exact ⟨rfl, below_drewN HBW.out _⟩

set_option maxRecDepth 100000 in
set_option maxHeartbeats 2000000 in
theorem reserved_any (ra ba oa ha pa : Option Addr) (rn rc bn bc on oc hn hc pn pc : Nat) (m : Mkt) (o : Outc) (w : World) (hm : MktAt w ra ba oa rn rc bn bc on oc m) (ho : OutAt w ha pa hn hc pn pc o) (hf : FitOk m o) (k : Nat) (hk : k < rn) :
    Calls Try.prog 42 #[.agg #[.slice ra rn rc, .slice ba bn bc, .slice oa on oc, .slice ha hn hc, .slice pa pn pc], .int .i64 k] w fun e w' => e = .returned (.bool (resB m o k)) ∧ Below w.heap.size w w' := by
  have HB0 := Lib.hid (vw_start w ra ba oa ha pa rn rc bn bc on oc hn hc pn pc)
  obtain ⟨c0, c1, c2, c3, c4, hs, hbw⟩ := vw_kept HB0.out
  have hm1 := hm.below hbw (Nat.le_refl _)
  have ho1 := ho.below hbw (Nat.le_refl _)
  have HBW := Lib.hid hbw; clear hbw
  have hpn : pn = rn := by rw [← ho.prices.len, ← hm.res.len]; exact hf.plen
  subst hpn
  obtain ⟨y, hy, _⟩ := hm1.res.get hk
  obtain ⟨p, hp, _⟩ := ho1.prices.get hk
  obtain ⟨lb, lo, rfl⟩ := hm1.res.addr (by omega)
  obtain ⟨pb, po, rfl⟩ := ho1.prices.addr (by omega)
  have cy := hm1.res.cell lb lo rfl k y hy
  have cp := ho1.prices.cell pb po rfl k p hp
  have hv : resB m o k = (p == y) := by unfold resB; rw [getD_at hy, getD_at hp]
  rw [hv]
  have HV := Lib.hid hv; clear hv
  have i2 : (k : Int) < (pn : Int) := by omega
  clear hy hp ho1 hm1 hm ho
  simp only [vw] at c0 c1 c2 c3 c4 cy cp
  go_enter Try.func42, Try.ntmps42
  go_wp2_with fail
  go_quiet (fail)
  go_wp2_with fail
  go_ret
  exact ⟨rfl, below_drewN HBW.out _⟩
end Go.Proofs.Ytbnjeegicbffeaa
