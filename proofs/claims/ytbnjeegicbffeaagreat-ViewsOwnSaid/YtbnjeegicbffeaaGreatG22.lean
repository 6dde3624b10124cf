/- Walks: forests: a view of an outcome: does it fit? A region that draws its order: one walk in the order of the text serves every order, if each operation keeps the world within a class, and yields one value in all of it. Walks: forests: what a bidder has by an item; would it as well have it; does an item cost its reserve? Is an outcome even: as a word of the code, and in the words of the plain texts. -/
import Derived.Test.YtbnjeegicbffeaaGreatG19
import Derived.Test.YtbnjeegicbffeaaGreatG00
import Derived.Test.YtbnjeegicbffeaaGreatG08
import Derived.BigQuiet
/- Walks: forests: a view of an outcome: does it fit? -/
namespace Go.Proofs.YtbnjeegicbffeaaGreat
open Go.RowKit Sale

/-- an outcome -/
structure Outc where
  has : List Int
  prices : List Int

/-- does the outcome fit the market? -/
def ofitTo (o : Outc) (k : Nat) : Bool := (o.has.take k).all fun x => decide (-1 ≤ x) && decide (x < (o.prices.length : Int))
def ofitsB (m : Mkt) (o : Outc) : Bool := mcheck m && (decide (o.has.length = m.bids.length) && (decide (o.prices.length = m.res.length) && ofitTo o o.has.length))
structure FitOk (m : Mkt) (o : Outc) : Prop where
  mok : MOk m
  chk : mcheck m = true
  hlen : o.has.length = m.bids.length
  plen : o.prices.length = m.res.length
  item : ∀ x, x ∈ o.has → -1 ≤ x ∧ x < (m.res.length : Int)
theorem ofitTo_succ {o : Outc} {k : Nat} {x : Int} (h : o.has[k]? = some x) : ofitTo o (k + 1) = (ofitTo o k && (decide (-1 ≤ x) && decide (x < (o.prices.length : Int)))) := by
  unfold ofitTo; rw [List.take_add_one, h]; simp [List.all_append]
theorem ofitTo_no {o : Outc} {k : Nat} {x : Int} (h : o.has[k]? = some x) (hx : x < -1 ∨ (o.prices.length : Int) ≤ x) : ofitTo o o.has.length = false := by
  unfold ofitTo
  rw [List.take_length]
  rw [List.all_eq_false]
  exact ⟨x, List.mem_of_getElem? h, by simp; omega⟩
theorem ofitsB_ok {m : Mkt} {o : Outc} (h : ofitsB m o = true) : FitOk m o := by
  simp only [ofitsB, ofitTo, Bool.and_eq_true, decide_eq_true_eq, List.take_length, List.all_eq_true] at h
  obtain ⟨h1, h2, h3, h4⟩ := h
  exact ⟨mcheck_ok h1, h1, h2, h3, fun x hx => by have := h4 x hx; omega⟩

/-- the outcome's cells; a view -/
structure OutAt (w : World) (ha pa : Option Addr) (hn hc pn pc : Nat) (o : Outc) : Prop where
  has : Ints w ha hn hc o.has
  prices : Ints w pa pn pc o.prices
theorem OutAt.below {w w' : World} {ha pa : Option Addr} {hn hc pn pc : Nat} {o : Outc} (h : OutAt w ha pa hn hc pn pc o) {B : Nat} (hb : Below B w w') (hB : w.heap.size ≤ B) : OutAt w' ha pa hn hc pn pc o := ⟨h.has.below hb hB, h.prices.below hb hB⟩
def vcells (ra ba oa ha pa : Option Addr) (rn rc bn bc on oc hn hc pn pc : Nat) : Array Value := #[.slice ra rn rc, .slice ba bn bc, .slice oa on oc, .slice ha hn hc, .slice pa pn pc]
/-- the world behind the copy of a view -/
def vw (w : World) (ra ba oa ha pa : Option Addr) (rn rc bn bc on oc hn hc pn pc : Nat) : World := w.alloc (.cells #[.slice ra rn rc, .slice ba bn bc, .slice oa on oc, .slice ha hn hc, .slice pa pn pc] 112)
theorem vw_kept {w w1 : World} {ra ba oa ha pa : Option Addr} {rn rc bn bc on oc hn hc pn pc : Nat} (hb : Below (w.heap.size + 1) (vw w ra ba oa ha pa rn rc bn bc on oc hn hc pn pc) w1) :
    w1.cell? ⟨w.heap.size, 0, none⟩ = some (.slice ra rn rc) ∧ w1.cell? ⟨w.heap.size, 1, none⟩ = some (.slice ba bn bc) ∧ w1.cell? ⟨w.heap.size, 2, none⟩ = some (.slice oa on oc) ∧ w1.cell? ⟨w.heap.size, 3, none⟩ = some (.slice ha hn hc) ∧ w1.cell? ⟨w.heap.size, 4, none⟩ = some (.slice pa pn pc) ∧ w.heap.size < w1.heap.size ∧ Below w.heap.size w w1 := by
  have hs : (vw w ra ba oa ha pa rn rc bn bc on oc hn hc pn pc).heap.size = w.heap.size + 1 := by simp [vw]
  have h0 := hb.size
  refine ⟨?_, ?_, ?_, ?_, ?_, by omega, ((Below.refl w.heap.size w).alloc (Nat.le_refl _) _).trans (hb.mono (by omega))⟩
  all_goals (rw [hb.cell (p := ⟨w.heap.size, _, none⟩) (by simp)]; simp [vw, go_sem])
theorem vw_start (w : World) (ra ba oa ha pa : Option Addr) (rn rc bn bc on oc hn hc pn pc : Nat) : Below (w.heap.size + 1) (vw w ra ba oa ha pa rn rc bn bc on oc hn hc pn pc) (vw w ra ba oa ha pa rn rc bn bc on oc hn hc pn pc) := Below.refl _ _
theorem vw_below {w w1 w2 : World} {ra ba oa ha pa : Option Addr} {rn rc bn bc on oc hn hc pn pc : Nat} (h : Below (w.heap.size + 1) (vw w ra ba oa ha pa rn rc bn bc on oc hn hc pn pc) w1) (h2 : Below w1.heap.size w1 w2) : Below (w.heap.size + 1) (vw w ra ba oa ha pa rn rc bn bc on oc hn hc pn pc) w2 :=
  h.trans (h2.mono (by have := h.size; simp [vw] at this; omega))

set_option maxRecDepth 100000 in
set_option maxHeartbeats 2000000 in
theorem ofits_any (ra ba oa ha pa : Option Addr) (rn rc bn bc on oc hn hc pn pc : Nat) (m : Mkt) (o : Outc) (w : World) (hm : MktAt w ra ba oa rn rc bn bc on oc m) (ho : OutAt w ha pa hn hc pn pc o) :
    Calls Tryz.prog 67 #[.agg #[.slice ra rn rc, .slice ba bn bc, .slice oa on oc, .slice ha hn hc, .slice pa pn pc]] w fun e w' => e = .returned (.bool (ofitsB m o)) ∧ Below w.heap.size w w' := by
  have HB0 := Lib.hid (vw_start w ra ba oa ha pa rn rc bn bc on oc hn hc pn pc)
  obtain ⟨c0, c1, c2, c3, c4, hs, hbw⟩ := vw_kept HB0.out
  have hm1 := hm.below hbw (Nat.le_refl _)
  have HK := Lib.hid (mcheck_any ra ba oa rn rc bn bc on oc m (vw w ra ba oa ha pa rn rc bn bc on oc hn hc pn pc) hm1.res hm1.bids hm1.ord)
  have HO := Lib.hid ho
  have hhl := ho.has.len
  have hpl := ho.prices.len
  have hbl := hm.bids.len
  have hrl := hm.res.len
  have hhb := ho.has.big
  have hpb := ho.prices.big
  clear hm hm1 hbw ho c0 c1 c2 c3 c4 hs
  have hfit : ofitsB m o = (mcheck m && (decide (hn = bn) && (decide (pn = rn) && ofitTo o hn))) := by unfold ofitsB; rw [hhl, hpl, hbl, hrl]
  obtain ⟨bf, hbf⟩ : ∃ bf, bf = ofitsB m o := ⟨_, rfl⟩
  rw [← hbf]
  rw [hfit] at hbf
  have HBF := Lib.hid hbf; clear hbf
  have HHL := Lib.hid hhl; clear hhl
  have HPL := Lib.hid hpl; clear hpl
  clear hbl hrl hfit
  go_enter Tryz.func67, Tryz.ntmps67
  go_wp2_with fail
  refine HK.out.mono ?_
  rintro e w1 ⟨rfl, hb⟩
  have HB1 := Lib.hid (vw_below HB0.out hb); clear hb HK
  obtain ⟨c0, c1, c2, c3, c4, hs, hbw⟩ := vw_kept HB1.out
  have HBW := Lib.hid hbw; clear hbw
  obtain ⟨mb, hmb⟩ : ∃ mb, mb = mcheck m := ⟨_, rfl⟩
  rw [← hmb] at HBF ⊢
  clear hmb
  cases mb with
  | false =>
    go_wp2_with fail
    go_ret
    exact ⟨by rw [HBF.out]; rfl, HBW.out⟩
  | true =>
    by_cases h1 : hn = bn
    · subst h1
      by_cases h2 : pn = rn
      · subst h2
        go_wp2_with fail
        clear c0 c1 c2
        go_loopg [35] hn (fun g' s35 wr => ∃ k : Nat, k + g' = hn ∧ s35 = .int .i64 k ∧ ofitTo o k = true ∧ wr = w1)
        case atStart => exact ⟨0, by omega, rfl, rfl, rfl⟩
        case round =>
          obtain ⟨k, hk, rfl, hft, rfl⟩ := hrel
          have HKK := Lib.hid hk; clear hk
          have HFT := Lib.hid hft; clear hft
          by_cases hlt : k < hn
          · have HO1 := Lib.hid (HO.out.below HBW.out (Nat.le_refl _))
            obtain ⟨x, hx, _⟩ := HO1.out.has.get hlt
            obtain ⟨hb', ho', rfl⟩ := HO1.out.has.addr (by omega)
            have cx := HO1.out.has.cell hb' ho' rfl k x hx
            have hsucc := ofitTo_succ hx
            have hno := ofitTo_no hx
            rw [HPL.out] at hsucc hno
            rw [HHL.out] at hno
            have HX := Lib.hid hx; clear hx
            have HSUCC := Lib.hid hsucc; clear hsucc
            have HNO := Lib.hid hno; clear hno
            by_cases h3 : x < -1
            · have e3 : decide (x < -1) = true := by simpa using h3
              go_wp2_with fail
              go_ret
              exact ⟨by rw [HBF.out, HNO.out (.inl h3)]; simp, HBW.out⟩
            · have e3 : decide (x < -1) = false := by simpa using h3
              by_cases h4 : (pn : Int) ≤ x
              · have e4 : decide ((pn : Int) ≤ x) = true := by simpa using h4
                go_wp2_with fail
                go_ret
                exact ⟨by rw [HBF.out, HNO.out (.inr h4)]; simp, HBW.out⟩
              · have e4 : decide ((pn : Int) ≤ x) = false := by simpa using h4
                go_wp2_with fail
                go_roundg (gk - 1)
                case measure => have := HKK.out; omega
                case rel => exact ⟨k + 1, by have := HKK.out; omega, by go_num, by rw [HSUCC.out, HFT.out]; simp; omega, rfl⟩
          · obtain rfl : k = hn := by have := HKK.out; omega
            go_wp2_with fail
            go_ret
            exact ⟨by rw [HBF.out, HFT.out]; simp, HBW.out⟩
      · have e2 : ((pn : Int) != (rn : Int)) = true := by simp; omega
        rw [decide_eq_false h2] at HBF
        clear h2
        go_wp2_with fail
        go_ret
        exact ⟨by rw [HBF.out]; simp, HBW.out⟩
    · have e2 : ((hn : Int) != (bn : Int)) = true := by simp; omega
      rw [decide_eq_false h1] at HBF
      clear h1
      go_wp2_with fail
      go_ret
      exact ⟨by rw [HBF.out]; simp, HBW.out⟩
end Go.Proofs.YtbnjeegicbffeaaGreat

/- A region that draws its order: one walk in the order of the text serves every order, if each operation keeps the world within a class, and yields one value in all of it. -/
namespace Go.Proofs.YtbnjeegicbffeaaGreat
open Go.RowKit

/-- a world of a class -/
structure Kept (S : World → Prop) where
  w : World
  h : S w

theorem wp_region_kept {P : Program} (S : World → Prop) {id : Nat} {Q : Exit → Act → World → Prop} {a : Act} {w : World} {l : List Oper} (hm : P.follows .mixedOrders = true) (hB : Region.lexB .any l.toArray = true) (hS : S w.drew)
    (h : wpQuiet P l.toArray (fun w' => ∃ y : Kept S, w' = y.w) (fun a' => ∀ w', (∃ y : Kept S, w' = y.w) → Q .normal a' w') l a) : (Code.region id l.toArray true).wp P Q a w :=
  wp_region_quiet (C := fun w' => ∃ y : Kept S, w' = y.w) hm hB ⟨⟨_, hS⟩, rfl⟩ (by simpa using h)

theorem Kept.call {P : Program} {S : World → Prop} {f : FuncId} {args : Array Value} {w : World} {v : Value} (h : Calls P f args w fun e w' => e = .returned v ∧ S w') :
    Calls P f args w fun e w' => e = .returned v ∧ ∃ y : Kept S, w' = y.w :=
  h.mono fun _ w' ⟨he, hs⟩ => ⟨he, ⟨w', hs⟩, rfl⟩
end Go.Proofs.YtbnjeegicbffeaaGreat

/- Walks: forests: what a bidder has by an item; would it as well have it; does an item cost its reserve? -/
namespace Go.Proofs.YtbnjeegicbffeaaGreat
open Go.RowKit Sale

def bidAt (m : Mkt) (i k : Nat) : Int := (m.bids.getD i []).getD k 0
/-- what it has by an item, as the machine reckons -/
def byV (m : Mkt) (o : Outc) (i : Nat) (x : Int) : Int := if x = -1 then 0 else wrap64 (bidAt m i x.toNat - o.prices.getD x.toNat 0)
def wellB (m : Mkt) (o : Outc) (i : Nat) (k : Int) : Bool := decide (0 < (m.bids.getD i []).length) && ((o.has.getD i (-1) != k) && (byV m o i (o.has.getD i (-1)) == byV m o i k))
def resB (m : Mkt) (o : Outc) (k : Nat) : Bool := o.prices.getD k 0 == m.res.getD k 0
theorem getD_at {l : List Int} {k : Nat} {x d : Int} (h : l[k]? = some x) : l.getD k d = x := by rw [List.getD_eq_getElem?_getD, h]; rfl
theorem bids_at {m : Mkt} {i : Nat} {b : List Int} (h : m.bids[i]? = some b) : m.bids.getD i [] = b := by rw [List.getD_eq_getElem?_getD, h]; rfl

set_option maxRecDepth 100000 in
set_option maxHeartbeats 2000000 in
theorem by_any (ra ba oa ha pa : Option Addr) (rn rc bn bc on oc hn hc pn pc : Nat) (m : Mkt) (o : Outc) (w : World) (hm : MktAt w ra ba oa rn rc bn bc on oc m) (ho : OutAt w ha pa hn hc pn pc o) (hf : FitOk m o) (i : Nat) (b : List Int) (hb : m.bids[i]? = some b) (hb0 : 0 < b.length)
    (x : Int) (hx1 : -1 ≤ x) (hx2 : x < (rn : Int)) :
    Calls Tryz.prog 84 #[.agg #[.slice ra rn rc, .slice ba bn bc, .slice oa on oc, .slice ha hn hc, .slice pa pn pc], .int .i64 i, .int .i64 x] w fun e w' => e = .returned (.int .i64 (byV m o i x)) ∧ Below w.heap.size w w' := by
  have HB0 := Lib.hid (vw_start w ra ba oa ha pa rn rc bn bc on oc hn hc pn pc)
  obtain ⟨c0, c1, c2, c3, c4, hs, hbw⟩ := vw_kept HB0.out
  have hm1 := hm.below hbw (Nat.le_refl _)
  have ho1 := ho.below hbw (Nat.le_refl _)
  have HBW := Lib.hid hbw; clear hbw
  have hpn : pn = rn := by rw [← ho.prices.len, ← hm.res.len]; exact hf.plen
  subst hpn
  have hib : i < bn := by rw [← hm.bids.len]; exact (List.getElem?_eq_some_iff.1 hb).1
  have hbl : b.length = pn := by
    rcases hf.mok.bid b (List.mem_of_getElem? hb) with e | ⟨e, _⟩
    · rw [e] at hb0; simp at hb0
    · rw [e]; exact hm.res.len
  obtain ⟨bb, bo, rfl⟩ := hm1.bids.addr (by omega)
  obtain ⟨la, ln, lc, hcl, hli⟩ := hm1.bids.cell bb bo rfl i b hb
  have hln : ln = pn := by rw [← hli.len]; exact hbl
  subst hln
  clear hm ho
  have i1 : (i : Int) < (bn : Int) := by omega
  by_cases hx : x = -1
  · subst hx
    go_enter Tryz.func84, Tryz.ntmps84
    go_wp2_with fail
    go_ret
    exact ⟨rfl, HBW.out⟩
  · obtain ⟨k, rfl⟩ := Int.eq_ofNat_of_zero_le (show 0 ≤ x by omega)
    have hk : k < ln := by omega
    obtain ⟨y, hy, _⟩ := hli.get hk
    obtain ⟨p, hp, _⟩ := ho1.prices.get hk
    obtain ⟨lb, lo, rfl⟩ := hli.addr (by omega)
    obtain ⟨pb, po, rfl⟩ := ho1.prices.addr (by omega)
    have cy := hli.cell lb lo rfl k y hy
    have cp := ho1.prices.cell pb po rfl k p hp
    have hv : byV m o i (k : Int) = wrap64 (y - p) := by
      unfold byV bidAt
      rw [if_neg hx, Int.toNat_natCast, bids_at hb, getD_at hy, getD_at hp]
    rw [hv]
    have HV := Lib.hid hv; clear hv
    have e1 : ((k : Int) == -1) = false := by simp
    have i2 : (k : Int) < (ln : Int) := by omega
    clear hy hp hb hli ho1 hm1 hx hx1 hx2 hbl
    simp only [vw] at c0 c1 c2 c3 c4 hcl cy cp
    go_enter Tryz.func84, Tryz.ntmps84
    go_wp2_with fail
    go_quiet (fail)
    go_wp2_with fail
    go_ret
    exact ⟨rfl, below_drewN HBW.out _⟩

set_option maxRecDepth 100000 in
set_option maxHeartbeats 2000000 in
theorem reserved_any (ra ba oa ha pa : Option Addr) (rn rc bn bc on oc hn hc pn pc : Nat) (m : Mkt) (o : Outc) (w : World) (hm : MktAt w ra ba oa rn rc bn bc on oc m) (ho : OutAt w ha pa hn hc pn pc o) (hf : FitOk m o) (k : Nat) (hk : k < rn) :
    Calls Tryz.prog 68 #[.agg #[.slice ra rn rc, .slice ba bn bc, .slice oa on oc, .slice ha hn hc, .slice pa pn pc], .int .i64 k] w fun e w' => e = .returned (.bool (resB m o k)) ∧ Below w.heap.size w w' := by
  have HB0 := Lib.hid (vw_start w ra ba oa ha pa rn rc bn bc on oc hn hc pn pc)
  obtain ⟨c0, c1, c2, c3, c4, hs, hbw⟩ := vw_kept HB0.out
  have hm1 := hm.below hbw (Nat.le_refl _)
  have ho1 := ho.below hbw (Nat.le_refl _)
  have HBW := Lib.hid hbw; clear hbw
  have hpn : pn = rn := by rw [← ho.prices.len, ← hm.res.len]; exact hf.plen
  subst hpn
  obtain ⟨y, hy, _⟩ := hm1.res.get hk
  obtain ⟨p, hp, _⟩ := ho1.prices.get hk
  obtain ⟨lb, lo, rfl⟩ := hm1.res.addr (by omega)
  obtain ⟨pb, po, rfl⟩ := ho1.prices.addr (by omega)
  have cy := hm1.res.cell lb lo rfl k y hy
  have cp := ho1.prices.cell pb po rfl k p hp
  have hv : resB m o k = (p == y) := by unfold resB; rw [getD_at hy, getD_at hp]
  rw [hv]
  have HV := Lib.hid hv; clear hv
  have i2 : (k : Int) < (pn : Int) := by omega
  clear hy hp ho1 hm1 hm ho
  simp only [vw] at c0 c1 c2 c3 c4 cy cp
  go_enter Tryz.func68, Tryz.ntmps68
  go_wp2_with fail
  go_quiet (fail)
  go_wp2_with fail
  go_ret
  exact ⟨rfl, below_drewN HBW.out _⟩
end Go.Proofs.YtbnjeegicbffeaaGreat

/- Is an outcome even: as a word of the code, and in the words of the plain texts. -/
namespace Go.Proofs.YtbnjeegicbffeaaGreat
open Go.RowKit Sale

/-- is it even for a bidder? -/
def evBid (m : Mkt) (o : Outc) (i : Nat) (x : Int) : Bool :=
  decide (-1 ≤ x) && (decide (x < (o.prices.length : Int)) && (if (m.bids.getD i []).length = 0 then x == -1 else decide (0 ≤ byV m o i x) && (List.range o.prices.length).all fun k => decide (byV m o i (k : Int) ≤ byV m o i x)))
def evBids (m : Mkt) (o : Outc) (n : Nat) : Bool := (List.range n).all fun i => evBid m o i (o.has.getD i (-1))
/-- .. for an item? -/
def evPrice (m : Mkt) (o : Outc) (k : Nat) : Bool := decide (m.res.getD k 0 ≤ o.prices.getD k 0) && (decide (o.prices.getD k 0 ≤ 2000000) && (decide (0 < o.has.count (k : Int)) || o.prices.getD k 0 == m.res.getD k 0))
def evPrices (m : Mkt) (o : Outc) (n : Nat) : Bool := (List.range n).all (evPrice m o)
def evOnce (o : Outc) (n : Nat) : Bool := (List.range n).all fun k => decide (o.has.count (k : Int) ≤ 1)
def evenB (m : Mkt) (o : Outc) : Bool := mcheck m && (decide (o.has.length = m.bids.length) && (decide (o.prices.length = m.res.length) && (evBids m o o.has.length && (evPrices m o o.prices.length && evOnce o o.prices.length))))

/-- prices above the reserves -/
def qOf (m : Mkt) (prices : List Int) (k : Nat) : Int := prices.getD k 0 - m.res.getD k 0

structure EvOk (m : Mkt) (o : Outc) : Prop where
  fit : FitOk m o
  pr : ∀ k, k < m.res.length → m.res.getD k 0 ≤ o.prices.getD k 0 ∧ o.prices.getD k 0 ≤ 2000000
  even : Even (gi (gainsM m)) m.res.length m.bids.length (qOf m o.prices) (slotOf o.has)

theorem count_two {l : List Int} {x : Int} {i j : Nat} (hij : i < j) (hi : l[i]? = some x) (hj : l[j]? = some x) : 2 ≤ l.count x := by
  have h1 : x ∈ l.take j := List.mem_of_getElem? (i := i) (by rw [List.getElem?_take_of_lt hij]; exact hi)
  have h2 : x ∈ l.drop j := List.mem_of_getElem? (i := 0) (by rw [List.getElem?_drop]; simpa using hj)
  have e : l.count x = (l.take j).count x + (l.drop j).count x := by rw [← List.count_append, List.take_append_drop]
  have := List.count_pos_iff.2 h1
  have := List.count_pos_iff.2 h2
  omega
theorem two_of_count {l : List Int} {x : Int} (h : 1 < l.count x) : ∃ i j : Nat, i < j ∧ l[i]? = some x ∧ l[j]? = some x := by
  induction l with
  | nil => simp at h
  | cons a l ih =>
    rw [List.count_cons] at h
    by_cases e : a = x
    · have hm : x ∈ l := by
        rw [← List.count_pos_iff]
        simp [e] at h
        exact List.count_pos_iff.2 h
      obtain ⟨j, hj⟩ := List.mem_iff_getElem?.1 hm
      exact ⟨0, j + 1, by omega, by simp [e], by simpa using hj⟩
    · obtain ⟨i, j, h1, h2, h3⟩ := ih (by simpa [e] using h)
      exact ⟨i + 1, j + 1, by omega, by simpa using h2, by simpa using h3⟩
theorem getD_mem {l : List Int} {k : Nat} (h : k < l.length) (d : Int) : l.getD k d ∈ l := by
  rw [List.getD_eq_getElem?_getD, List.getElem?_eq_getElem h]; exact List.getElem_mem _
theorem getD_some {l : List Int} {k : Nat} (h : k < l.length) (d : Int) : l[k]? = some (l.getD k d) := by
  rw [List.getD_eq_getElem?_getD, List.getElem?_eq_getElem h]; rfl

theorem MOk.bid_at {m : Mkt} (h : MOk m) {i : Nat} (hi : i < m.bids.length) : m.bids.getD i [] = [] ∨ ((m.bids.getD i []).length = m.res.length ∧ ∀ k, k < m.res.length → 0 ≤ bidAt m i k ∧ bidAt m i k ≤ 1000000) := by
  have hg : m.bids.getD i [] = m.bids[i] := by rw [List.getD_eq_getElem?_getD, List.getElem?_eq_getElem hi]; rfl
  rcases h.bid _ (List.getElem_mem hi) with e | ⟨h1, h2⟩
  · exact .inl (hg.trans e)
  · refine .inr ⟨by rw [hg]; exact h1, fun k hk => ?_⟩
    unfold bidAt
    rw [hg]
    exact h2 _ (getD_mem (by omega) 0)
/-- what one has by an item, at prices that may be -/
theorem gain_at {m : Mkt} (_h : MOk m) (prices : List Int) {i k : Nat} (hi : i < m.bids.length) (hk : k < m.res.length) :
    gi (gainsM m) i k - qOf m prices k = if m.bids.getD i [] = [] then -1 - qOf m prices k else bidAt m i k - prices.getD k 0 := by
  have hg : m.bids.getD i [] = m.bids[i] := by rw [List.getD_eq_getElem?_getD, List.getElem?_eq_getElem hi]; rfl
  rw [gi_bid hi hk, hg]
  unfold bidAt qOf
  rw [hg]
  split
  · rfl
  · omega
theorem byV_is {m : Mkt} {o : Outc} (h : MOk m) (hp : ∀ k, k < m.res.length → m.res.getD k 0 ≤ o.prices.getD k 0 ∧ o.prices.getD k 0 ≤ 2000000) {i k : Nat} (hi : i < m.bids.length) (hk : k < m.res.length) (hne : m.bids.getD i [] ≠ []) : byV m o i (k : Int) = gi (gainsM m) i k - qOf m o.prices k := by
  rw [gain_at h o.prices hi hk, if_neg hne]
  obtain ⟨_, hb⟩ := (h.bid_at hi).resolve_left hne
  have h1 := hb k hk
  have h2 := hp k hk
  have h3 := h.res _ (getD_mem hk 0)
  unfold byV
  rw [if_neg (by omega), Int.toNat_natCast]
  unfold wrap64
  omega
theorem sur_is {m : Mkt} {o : Outc} {i : Nat} (h : MOk m) (hp : ∀ k, k < m.res.length → m.res.getD k 0 ≤ o.prices.getD k 0 ∧ o.prices.getD k 0 ≤ 2000000) (hl : o.has.length = m.bids.length) (hi : i < m.bids.length) (hx1 : -1 ≤ o.has.getD i (-1)) (hx2 : o.has.getD i (-1) < (m.res.length : Int)) (hne : m.bids.getD i [] ≠ []) :
    sur (gi (gainsM m)) (qOf m o.prices) (slotOf o.has) i = byV m o i (o.has.getD i (-1)) := by
  have hs := slot_of (getD_some (l := o.has) (k := i) (by omega) (-1))
  by_cases e : o.has.getD i (-1) = -1
  · rw [if_pos e] at hs
    rw [sur_none hs, e]; rfl
  · rw [if_neg e] at hs
    obtain ⟨k, hk⟩ : ∃ k : Nat, o.has.getD i (-1) = (k : Int) := ⟨(o.has.getD i (-1)).toNat, by omega⟩
    rw [hk] at hs hx2 ⊢
    rw [sur_some hs, Int.toNat_natCast, byV_is h hp hi (by omega) hne]

theorem evenB_ok {m : Mkt} {o : Outc} (h : evenB m o = true) : EvOk m o := by
  simp only [evenB, evBids, evPrices, evOnce, evPrice, Bool.and_eq_true, decide_eq_true_eq, List.all_eq_true, List.mem_range, Bool.or_eq_true, beq_iff_eq] at h
  obtain ⟨h1, h2, h3, h4, h5, h6⟩ := h
  have hok := mcheck_ok h1
  have hpr : ∀ k, k < m.res.length → m.res.getD k 0 ≤ o.prices.getD k 0 ∧ o.prices.getD k 0 ≤ 2000000 := fun k hk => by have := h5 k (by omega); exact ⟨this.1, this.2.1⟩
  have hx : ∀ i, i < m.bids.length → -1 ≤ o.has.getD i (-1) ∧ o.has.getD i (-1) < (m.res.length : Int) := fun i hi => by
    have := h4 i (by omega)
    simp only [evBid, Bool.and_eq_true, decide_eq_true_eq] at this
    exact ⟨this.1, by omega⟩
  refine ⟨⟨hok, h1, h2, h3, fun x hx' => ?_⟩, hpr, ⟨fun k hk => ?_, ⟨fun i hi k hk => ?_, fun i hi i' hi' k hk hk' => ?_⟩, fun i hi => ?_, fun i hi k hk => ?_, fun k hk hq => ?_⟩⟩
  · obtain ⟨i, hi⟩ := List.mem_iff_getElem?.1 hx'
    have hil : i < o.has.length := (List.getElem?_eq_some_iff.1 hi).1
    have := hx i (by omega)
    rwa [getD_at hi] at this
  · have := hpr k hk; unfold qOf; omega
  · obtain ⟨x, hx1, hx2, hx3⟩ := slot_some hk
    have := hx i hi
    rw [getD_at hx1] at this
    omega
  · obtain ⟨x, hx1, hx2, hx3⟩ := slot_some hk
    obtain ⟨y, hy1, hy2, hy3⟩ := slot_some hk'
    have a := hx i hi
    have b := hx i' hi'
    rw [getD_at hx1] at a
    rw [getD_at hy1] at b
    have ex : x = (k : Int) := by omega
    have ey : y = (k : Int) := by omega
    subst ex
    subst ey
    have hc := h6 k (by omega)
    rcases Nat.lt_trichotomy i i' with h | h | h
    · have := count_two h hx1 hy1; omega
    · exact h
    · have := count_two h hy1 hx1; omega
  · have hb := h4 i (by omega)
    have hxi := hx i hi
    simp only [evBid, Bool.and_eq_true, decide_eq_true_eq] at hb
    by_cases he : m.bids.getD i [] = []
    · have e := hb.2.2
      rw [he] at e
      simp at e
      rw [sur_none (by rw [slot_of (getD_some (l := o.has) (k := i) (by omega) (-1))]; simp [e])]
      exact Int.le_refl _
    · have e := hb.2.2
      rw [if_neg (by simpa using he)] at e
      simp only [Bool.and_eq_true, decide_eq_true_eq] at e
      rw [sur_is hok hpr h2 hi hxi.1 hxi.2 he]
      exact e.1
  · have hb := h4 i (by omega)
    have hxi := hx i hi
    simp only [evBid, Bool.and_eq_true, decide_eq_true_eq] at hb
    by_cases he : m.bids.getD i [] = []
    · have e := hb.2.2
      rw [he] at e
      simp at e
      rw [sur_none (by rw [slot_of (getD_some (l := o.has) (k := i) (by omega) (-1))]; simp [e]), gain_at hok o.prices hi hk, if_pos he]
      have := hpr k hk
      unfold qOf
      omega
    · have e := hb.2.2
      rw [if_neg (by simpa using he)] at e
      simp only [Bool.and_eq_true, decide_eq_true_eq, List.all_eq_true, List.mem_range] at e
      rw [sur_is hok hpr h2 hi hxi.1 hxi.2 he, ← byV_is hok hpr hi hk he]
      exact e.2 k (by omega)
  · have hp := h5 k (by omega)
    unfold qOf at hq
    have hc : 0 < o.has.count (k : Int) := by
      rcases hp.2.2 with h | h
      · exact h
      · omega
    obtain ⟨i, hi⟩ := List.mem_iff_getElem?.1 (List.count_pos_iff.1 hc)
    have hil : i < o.has.length := (List.getElem?_eq_some_iff.1 hi).1
    exact ⟨i, by omega, by rw [slot_of hi, if_neg (by omega)]; simp⟩
theorem evenB_of {m : Mkt} {o : Outc} (h : EvOk m o) : evenB m o = true := by
  obtain ⟨⟨hok, h1, h2, h3, hit⟩, hpr, hev⟩ := h
  simp only [evenB, evBids, evPrices, evOnce, evPrice, Bool.and_eq_true, decide_eq_true_eq, List.all_eq_true, List.mem_range, Bool.or_eq_true, beq_iff_eq]
  have hx : ∀ i, i < m.bids.length → -1 ≤ o.has.getD i (-1) ∧ o.has.getD i (-1) < (m.res.length : Int) := fun i hi => hit _ (getD_mem (by omega) _)
  refine ⟨h1, h2, h3, fun i hi => ?_, fun k hk => ?_, fun k hk => ?_⟩
  · have hi' : i < m.bids.length := by omega
    have hxi := hx i hi'
    simp only [evBid, Bool.and_eq_true, decide_eq_true_eq]
    refine ⟨hxi.1, by omega, ?_⟩
    have hz := hev.zero i hi'
    by_cases he : m.bids.getD i [] = []
    · rw [he]
      simp only [List.length_nil, if_true]
      rw [beq_iff_eq]
      have hs := slot_of (getD_some (l := o.has) (k := i) hi (-1))
      rcases Int.lt_or_le (o.has.getD i (-1)) 0 with hlt | hge
      · omega
      · rw [if_neg (by omega)] at hs
        have hkn : (o.has.getD i (-1)).toNat < m.res.length := by omega
        rw [sur_some hs, gain_at hok o.prices hi' hkn, if_pos he] at hz
        have := hev.nonneg _ hkn
        omega
    · rw [if_neg (by simpa using he)]
      simp only [Bool.and_eq_true, decide_eq_true_eq, List.all_eq_true, List.mem_range]
      rw [← sur_is hok hpr h2 hi' hxi.1 hxi.2 he]
      refine ⟨hz, fun k hk => ?_⟩
      rw [byV_is hok hpr hi' (by omega) he]
      exact hev.best i hi' k (by omega)
  · have hp := hpr k (by omega)
    refine ⟨hp.1, hp.2, ?_⟩
    by_cases e : o.prices.getD k 0 = m.res.getD k 0
    · exact .inr e
    · refine .inl (List.count_pos_iff.2 ?_)
      obtain ⟨i, hi, hs⟩ := hev.sold k (by omega) (by unfold qOf; omega)
      obtain ⟨x, hx1, hx2, hx3⟩ := slot_some hs
      have := hx i hi
      rw [getD_at hx1] at this
      have ex : x = (k : Int) := by omega
      exact ex ▸ List.mem_of_getElem? hx1
  · rcases Nat.lt_or_ge 1 (o.has.count (k : Int)) with h | h
    · obtain ⟨i, j, hij, hi, hj⟩ := two_of_count h
      have hil : i < m.bids.length := by have := (List.getElem?_eq_some_iff.1 hi).1; omega
      have hjl : j < m.bids.length := by have := (List.getElem?_eq_some_iff.1 hj).1; omega
      have e1 : slotOf o.has i = some k := by rw [slot_of hi, if_neg (by omega)]; simp
      have e2 : slotOf o.has j = some k := by rw [slot_of hj, if_neg (by omega)]; simp
      have := hev.inj.one i hil j hjl k e1 e2
      omega
    · exact h
theorem evenB_iff {m : Mkt} {o : Outc} : evenB m o = true ↔ EvOk m o := ⟨evenB_ok, evenB_of⟩
end Go.Proofs.YtbnjeegicbffeaaGreat
