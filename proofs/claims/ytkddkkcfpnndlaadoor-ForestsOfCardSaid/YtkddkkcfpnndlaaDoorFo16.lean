/- Walks: markets.Gains. Walks: forests: a view of an outcome: does it fit? The markets of the chapters' examples, as the laws' texts make them. The second market of the chapters' examples, as the laws' texts make it. Walks: a rise's state in memory; what a bidder has by an item. -/
import Derived.Test.YtkddkkcfpnndlaaDoorFo13
import Derived.Test.YtkddkkcfpnndlaaDoorFo15
import Derived.BigRegion
namespace Go.Proofs.YtkddkkcfpnndlaaDoor
open Go.RowKit

/-- the world behind the copy of a market -/
def mw (w : World) (ra ba oa : Option Addr) (rn rc bn bc on oc : Nat) : World := w.alloc (.cells #[.slice ra rn rc, .slice ba bn bc, .slice oa on oc] 25)
theorem mw_kept {w w1 : World} {ra ba oa : Option Addr} {rn rc bn bc on oc : Nat} (hb : Below (w.heap.size + 1) (mw w ra ba oa rn rc bn bc on oc) w1) :
    w1.cell? ⟨w.heap.size, 0, none⟩ = some (.slice ra rn rc) ∧ w1.cell? ⟨w.heap.size, 1, none⟩ = some (.slice ba bn bc) ∧ w1.cell? ⟨w.heap.size, 2, none⟩ = some (.slice oa on oc) ∧ w.heap.size < w1.heap.size ∧ Below w.heap.size w w1 := by
  have hs : (mw w ra ba oa rn rc bn bc on oc).heap.size = w.heap.size + 1 := by simp [mw]
  have h0 := hb.size
  refine ⟨?_, ?_, ?_, by omega, ((Below.refl w.heap.size w).alloc (Nat.le_refl _) _).trans (hb.mono (by omega))⟩
  · rw [hb.cell (p := ⟨w.heap.size, 0, none⟩) (by simp)]; simp [mw, go_sem]
  · rw [hb.cell (p := ⟨w.heap.size, 1, none⟩) (by simp)]; simp [mw, go_sem]
  · rw [hb.cell (p := ⟨w.heap.size, 2, none⟩) (by simp)]; simp [mw, go_sem]
theorem mw_start (w : World) (ra ba oa : Option Addr) (rn rc bn bc on oc : Nat) : Below (w.heap.size + 1) (mw w ra ba oa rn rc bn bc on oc) (mw w ra ba oa rn rc bn bc on oc) := Below.refl _ _
/-- a market in memory -/
structure MktAt (w : World) (ra ba oa : Option Addr) (rn rc bn bc on oc : Nat) (m : Mkt) : Prop where
  res : Ints w ra rn rc m.res
  bids : Rows w ba bn bc m.bids
  ord : Ints w oa on oc m.ord
theorem MktAt.below {w w' : World} {ra ba oa : Option Addr} {rn rc bn bc on oc : Nat} {m : Mkt} (h : MktAt w ra ba oa rn rc bn bc on oc m) {B : Nat} (hb : Below B w w') (hB : w.heap.size ≤ B) : MktAt w' ra ba oa rn rc bn bc on oc m :=
  ⟨h.res.below hb hB, h.bids.below hb hB, h.ord.below hb hB⟩

end Go.Proofs.YtkddkkcfpnndlaaDoor

namespace Go.Proofs.YtkddkkcfpnndlaaDoor
open Go.RowKit Sale

/-- an outcome -/
structure Outc where
  has : List Int
  prices : List Int

/-- does the outcome fit the market? -/
def ofitTo (o : Outc) (k : Nat) : Bool := (o.has.take k).all fun x => decide (-1 ≤ x) && decide (x < (o.prices.length : Int))
def ofitsB (m : Mkt) (o : Outc) : Bool := mcheck m && (decide (o.has.length = m.bids.length) && (decide (o.prices.length = m.res.length) && ofitTo o o.has.length))
structure FitOk (m : Mkt) (o : Outc) : Prop where
  mok : MOk m
  chk : mcheck m = true
  hlen : o.has.length = m.bids.length
  plen : o.prices.length = m.res.length
  item : ∀ x, x ∈ o.has → -1 ≤ x ∧ x < (m.res.length : Int)
theorem ofitTo_succ {o : Outc} {k : Nat} {x : Int} (h : o.has[k]? = some x) : ofitTo o (k + 1) = (ofitTo o k && (decide (-1 ≤ x) && decide (x < (o.prices.length : Int)))) := by
  unfold ofitTo; rw [List.take_add_one, h]; simp [List.all_append]
theorem ofitTo_no {o : Outc} {k : Nat} {x : Int} (h : o.has[k]? = some x) (hx : x < -1 ∨ (o.prices.length : Int) ≤ x) : ofitTo o o.has.length = false := by
  unfold ofitTo
  rw [List.take_length]
  rw [List.all_eq_false]
  exact ⟨x, List.mem_of_getElem? h, by simp; omega⟩
theorem ofitsB_ok {m : Mkt} {o : Outc} (h : ofitsB m o = true) : FitOk m o := by
  simp only [ofitsB, ofitTo, Bool.and_eq_true, decide_eq_true_eq, List.take_length, List.all_eq_true] at h
  obtain ⟨h1, h2, h3, h4⟩ := h
  exact ⟨mcheck_ok h1, h1, h2, h3, fun x hx => by have := h4 x hx; omega⟩

/-- the outcome's cells; a view -/
structure OutAt (w : World) (ha pa : Option Addr) (hn hc pn pc : Nat) (o : Outc) : Prop where
  has : Ints w ha hn hc o.has
  prices : Ints w pa pn pc o.prices
theorem OutAt.below {w w' : World} {ha pa : Option Addr} {hn hc pn pc : Nat} {o : Outc} (h : OutAt w ha pa hn hc pn pc o) {B : Nat} (hb : Below B w w') (hB : w.heap.size ≤ B) : OutAt w' ha pa hn hc pn pc o := ⟨h.has.below hb hB, h.prices.below hb hB⟩
/-- the world behind the copy of a view -/
def vw (w : World) (ra ba oa ha pa : Option Addr) (rn rc bn bc on oc hn hc pn pc : Nat) : World := w.alloc (.cells #[.slice ra rn rc, .slice ba bn bc, .slice oa on oc, .slice ha hn hc, .slice pa pn pc] 59)
theorem vw_kept {w w1 : World} {ra ba oa ha pa : Option Addr} {rn rc bn bc on oc hn hc pn pc : Nat} (hb : Below (w.heap.size + 1) (vw w ra ba oa ha pa rn rc bn bc on oc hn hc pn pc) w1) :
    w1.cell? ⟨w.heap.size, 0, none⟩ = some (.slice ra rn rc) ∧ w1.cell? ⟨w.heap.size, 1, none⟩ = some (.slice ba bn bc) ∧ w1.cell? ⟨w.heap.size, 2, none⟩ = some (.slice oa on oc) ∧ w1.cell? ⟨w.heap.size, 3, none⟩ = some (.slice ha hn hc) ∧ w1.cell? ⟨w.heap.size, 4, none⟩ = some (.slice pa pn pc) ∧ w.heap.size < w1.heap.size ∧ Below w.heap.size w w1 := by
  have hs : (vw w ra ba oa ha pa rn rc bn bc on oc hn hc pn pc).heap.size = w.heap.size + 1 := by simp [vw]
  have h0 := hb.size
  refine ⟨?_, ?_, ?_, ?_, ?_, by omega, ((Below.refl w.heap.size w).alloc (Nat.le_refl _) _).trans (hb.mono (by omega))⟩
  all_goals (rw [hb.cell (p := ⟨w.heap.size, _, none⟩) (by simp)]; simp [vw, go_sem])
theorem vw_start (w : World) (ra ba oa ha pa : Option Addr) (rn rc bn bc on oc hn hc pn pc : Nat) : Below (w.heap.size + 1) (vw w ra ba oa ha pa rn rc bn bc on oc hn hc pn pc) (vw w ra ba oa ha pa rn rc bn bc on oc hn hc pn pc) := Below.refl _ _
theorem vw_below {w w1 w2 : World} {ra ba oa ha pa : Option Addr} {rn rc bn bc on oc hn hc pn pc : Nat} (h : Below (w.heap.size + 1) (vw w ra ba oa ha pa rn rc bn bc on oc hn hc pn pc) w1) (h2 : Below w1.heap.size w1 w2) : Below (w.heap.size + 1) (vw w ra ba oa ha pa rn rc bn bc on oc hn hc pn pc) w2 :=
  h.trans (h2.mono (by have := h.size; simp [vw] at this; omega))

set_option maxRecDepth 100000 in
set_option maxHeartbeats 2000000 in
theorem ofits_any (ra ba oa ha pa : Option Addr) (rn rc bn bc on oc hn hc pn pc : Nat) (m : Mkt) (o : Outc) (w : World) (hm : MktAt w ra ba oa rn rc bn bc on oc m) (ho : OutAt w ha pa hn hc pn pc o) :
    Calls Tryd.prog 21 #[.agg #[.slice ra rn rc, .slice ba bn bc, .slice oa on oc, .slice ha hn hc, .slice pa pn pc]] w fun e w' => e = .returned (.bool (ofitsB m o)) ∧ Below w.heap.size w w' := by
  have HB0 := Lib.hid (vw_start w ra ba oa ha pa rn rc bn bc on oc hn hc pn pc)
  obtain ⟨c0, c1, c2, c3, c4, hs, hbw⟩ := vw_kept HB0.out
  have hm1 := hm.below hbw (Nat.le_refl _)
  have HK := Lib.hid (mcheck_any ra ba oa rn rc bn bc on oc m (vw w ra ba oa ha pa rn rc bn bc on oc hn hc pn pc) hm1.res hm1.bids hm1.ord)
  have HO := Lib.hid ho
  have hhl := ho.has.len
  have hpl := ho.prices.len
  have hbl := hm.bids.len
  have hrl := hm.res.len
  have hhb := ho.has.big
  have hpb := ho.prices.big
  clear hm hm1 hbw ho c0 c1 c2 c3 c4 hs
  have hfit : ofitsB m o = (mcheck m && (decide (hn = bn) && (decide (pn = rn) && ofitTo o hn))) := by unfold ofitsB; rw [hhl, hpl, hbl, hrl]
  obtain ⟨bf, hbf⟩ : ∃ bf, bf = ofitsB m o := ⟨_, rfl⟩
  rw [← hbf]
  rw [hfit] at hbf
  have HBF := Lib.hid hbf; clear hbf
  have HHL := Lib.hid hhl; clear hhl
  have HPL := Lib.hid hpl; clear hpl
  clear hbl hrl hfit
  go_enter Tryd.func21, Tryd.ntmps21
  go_wp2_with fail
  refine HK.out.mono ?_
  rintro e w1 ⟨rfl, hb⟩
  have HB1 := Lib.hid (vw_below HB0.out hb); clear hb HK
  obtain ⟨c0, c1, c2, c3, c4, hs, hbw⟩ := vw_kept HB1.out
  have HBW := Lib.hid hbw; clear hbw
  obtain ⟨mb, hmb⟩ : ∃ mb, mb = mcheck m := ⟨_, rfl⟩
  rw [← hmb] at HBF ⊢
  clear hmb
  cases mb with
  | false =>
    go_wp2_with fail
    go_ret
    exact ⟨by rw [HBF.out]; rfl, HBW.out⟩
  | true =>
    by_cases h1 : hn = bn
    · subst h1
      by_cases h2 : pn = rn
      · subst h2
        go_wp2_with fail
        clear c0 c1 c2
        go_loopg [35] hn (fun g' s35 wr => ∃ k : Nat, k + g' = hn ∧ s35 = .int .i64 k ∧ ofitTo o k = true ∧ wr = w1)
        case atStart => exact ⟨0, by omega, rfl, rfl, rfl⟩
        case round =>
          obtain ⟨k, hk, rfl, hft, rfl⟩ := hrel
          have HKK := Lib.hid hk; clear hk
          have HFT := Lib.hid hft; clear hft
          by_cases hlt : k < hn
          · have HO1 := Lib.hid (HO.out.below HBW.out (Nat.le_refl _))
            obtain ⟨x, hx, _⟩ := HO1.out.has.get hlt
            obtain ⟨hb', ho', rfl⟩ := HO1.out.has.addr (by omega)
            have cx := HO1.out.has.cell hb' ho' rfl k x hx
            have hsucc := ofitTo_succ hx
            have hno := ofitTo_no hx
            rw [HPL.out] at hsucc hno
            rw [HHL.out] at hno
            have HX := Lib.hid hx; clear hx
            have HSUCC := Lib.hid hsucc; clear hsucc
            have HNO := Lib.hid hno; clear hno
            by_cases h3 : x < -1
            · have e3 : decide (x < -1) = true := by simpa using h3
              go_wp2_with fail
              go_ret
              exact ⟨by rw [HBF.out, HNO.out (.inl h3)]; simp, HBW.out⟩
            · have e3 : decide (x < -1) = false := by simpa using h3
              by_cases h4 : (pn : Int) ≤ x
              · have e4 : decide ((pn : Int) ≤ x) = true := by simpa using h4
                go_wp2_with fail
                go_ret
                exact ⟨by rw [HBF.out, HNO.out (.inr h4)]; simp, HBW.out⟩
              · have e4 : decide ((pn : Int) ≤ x) = false := by simpa using h4
                go_wp2_with fail
                go_roundg (gk - 1)
                case measure => have := HKK.out; omega
                case rel => exact ⟨k + 1, by have := HKK.out; omega, by go_num, by rw [HSUCC.out, HFT.out]; simp; omega, rfl⟩
          · obtain rfl : k = hn := by have := HKK.out; omega
            go_wp2_with fail
            go_ret
            exact ⟨by rw [HBF.out, HFT.out]; simp, HBW.out⟩
      · have e2 : ((pn : Int) != (rn : Int)) = true := by simp; omega
        rw [decide_eq_false h2] at HBF
        clear h2
        go_wp2_with fail
        go_ret
        exact ⟨by rw [HBF.out]; simp, HBW.out⟩
    · have e2 : ((hn : Int) != (bn : Int)) = true := by simp; omega
      rw [decide_eq_false h1] at HBF
      clear h1
      go_wp2_with fail
      go_ret
      exact ⟨by rw [HBF.out]; simp, HBW.out⟩
end Go.Proofs.YtkddkkcfpnndlaaDoor

namespace Go.Proofs.YtkddkkcfpnndlaaDoor
open Go.RowKit

def m1 : Mkt := ⟨[2], [[9], [5]], [0, 1]⟩
/-- the world in which it is made -/
def m1w (w : World) : World := (((((w.alloc (.cells #[.int .i64 2] 3)).alloc (.cells #[.int .i64 9] 3)).alloc (.cells #[.int .i64 5] 3)).alloc (.cells #[.slice (some ⟨w.heap.size + 1, 0, none⟩) 1 1, .slice (some ⟨w.heap.size + 1 + 1, 0, none⟩) 1 1] 22)).alloc (.cells #[.int .i64 0, .int .i64 1] 3)).alloc
  (.cells #[.slice (some ⟨w.heap.size, 0, none⟩) 1 1, .slice (some ⟨w.heap.size + 1 + 1 + 1, 0, none⟩) 2 2, .slice (some ⟨w.heap.size + 1 + 1 + 1 + 1, 0, none⟩) 2 2] 25)
structure M1At (w W : World) : Prop where
  mkt : MktAt W (some ⟨w.heap.size, 0, none⟩) (some ⟨w.heap.size + 1 + 1 + 1, 0, none⟩) (some ⟨w.heap.size + 1 + 1 + 1 + 1, 0, none⟩) 1 1 2 2 2 2 m1
  row : VRow W (w.heap.size + 1 + 1 + 1 + 1 + 1) 25 [.slice (some ⟨w.heap.size, 0, none⟩) 1 1, .slice (some ⟨w.heap.size + 1 + 1 + 1, 0, none⟩) 2 2, .slice (some ⟨w.heap.size + 1 + 1 + 1 + 1, 0, none⟩) 2 2]
  below : Below w.heap.size w W
theorem M1At.step {w W W' : World} (h : M1At w W) (hb : Below W.heap.size W W') : M1At w W' :=
  ⟨h.mkt.below hb (Nat.le_refl _), h.row.below hb h.row.lt, h.below.trans (hb.mono h.below.size)⟩

/-- rows of a table that is made of lists of integers -/
theorem rows_lit {W : World} {B n : Nat} {vals : List Value} {xss : List (List Int)} (hV : VRow W B 22 vals) (hl : vals.length = n) (hn : xss.length = n) (hb : n ≤ 100)
    (h : ∀ (i : Nat) (xs : List Int), xss[i]? = some xs → ∃ (a : Option Addr) (c : Nat), vals[i]? = some (Value.slice a xs.length c) ∧ Ints W a xs.length c xs) : Rows W (some ⟨B, 0, none⟩) n n xss := by
  have := hV.rows (xss := xss) (by omega) fun i xs hi => by
    obtain ⟨a, c, h1, h2⟩ := h i xs hi
    exact ⟨a, xs.length, c, h1, h2⟩
  rwa [hn] at this

theorem row_lit {W : World} {B : Nat} {xs : List Int} {n : Nat} (h : Row W B 3 xs) (hn : xs.length = n) (hb : n ≤ 100) (hx : ∀ x, x ∈ xs → -1000 ≤ x ∧ x ≤ 1000) : Ints W (some ⟨B, 0, none⟩) n n xs := by
  have := h.ints (by omega) (fun x h => by have := hx x h; omega)
  rwa [hn] at this

theorem m1_at (w : World) : M1At w (m1w w) := by
  have hB : Below w.heap.size w (m1w w) := (((((Below.refl _ w).alloc (Nat.le_refl _) _).alloc (by simp) _).alloc (by simp; omega) _).alloc (by simp; omega) _).alloc (by simp; omega) _ |>.alloc (by simp; omega) _
  have r0 : Row (m1w w) w.heap.size 3 [2] := (((((Row.new w 3 [2]).alloc _).alloc _).alloc _).alloc _).alloc _
  have r1 : Row (m1w w) (w.heap.size + 1) 3 [9] := ((((Row.new' (w.alloc (.cells #[.int .i64 2] 3)) 3 [9] (by simp)).alloc _).alloc _).alloc _).alloc _
  have r2 : Row (m1w w) (w.heap.size + 1 + 1) 3 [5] := (((Row.new' ((w.alloc (.cells #[.int .i64 2] 3)).alloc (.cells #[.int .i64 9] 3)) 3 [5] (by simp)).alloc _).alloc _).alloc _
  have r4 : Row (m1w w) (w.heap.size + 1 + 1 + 1 + 1) 3 [0, 1] := (Row.new' _ 3 [0, 1] (by simp)).alloc _
  have v3 : VRow (m1w w) (w.heap.size + 1 + 1 + 1) 22 [.slice (some ⟨w.heap.size + 1, 0, none⟩) 1 1, .slice (some ⟨w.heap.size + 1 + 1, 0, none⟩) 1 1] := by
    have h := VRow.new (((w.alloc (.cells #[.int .i64 2] 3)).alloc (.cells #[.int .i64 9] 3)).alloc (.cells #[.int .i64 5] 3)) 22 [.slice (some ⟨w.heap.size + 1, 0, none⟩) 1 1, .slice (some ⟨w.heap.size + 1 + 1, 0, none⟩) 1 1]
    rw [show (((w.alloc (.cells #[.int .i64 2] 3)).alloc (.cells #[.int .i64 9] 3)).alloc (.cells #[.int .i64 5] 3)).heap.size = w.heap.size + 1 + 1 + 1 by simp] at h
    exact (h.alloc _).alloc _
  refine ⟨⟨row_lit r0 rfl (by omega) (by decide), rows_lit v3 rfl rfl (by omega) fun i xs hi => ?_, row_lit r4 rfl (by omega) (by decide)⟩, ?_, hB⟩
  · match i, hi with
    | 0, hi => cases hi; exact ⟨_, _, rfl, row_lit r1 rfl (by decide) (by decide)⟩
    | 1, hi => cases hi; exact ⟨_, _, rfl, row_lit r2 rfl (by decide) (by decide)⟩
  · have h := VRow.new (((((w.alloc (.cells #[.int .i64 2] 3)).alloc (.cells #[.int .i64 9] 3)).alloc (.cells #[.int .i64 5] 3)).alloc (.cells #[.slice (some ⟨w.heap.size + 1, 0, none⟩) 1 1, .slice (some ⟨w.heap.size + 1 + 1, 0, none⟩) 1 1] 22)).alloc (.cells #[.int .i64 0, .int .i64 1] 3)) 25 [.slice (some ⟨w.heap.size, 0, none⟩) 1 1, .slice (some ⟨w.heap.size + 1 + 1 + 1, 0, none⟩) 2 2, .slice (some ⟨w.heap.size + 1 + 1 + 1 + 1, 0, none⟩) 2 2]
    rw [show (((((w.alloc (.cells #[.int .i64 2] 3)).alloc (.cells #[.int .i64 9] 3)).alloc (.cells #[.int .i64 5] 3)).alloc (.cells #[.slice (some ⟨w.heap.size + 1, 0, none⟩) 1 1, .slice (some ⟨w.heap.size + 1 + 1, 0, none⟩) 1 1] 22)).alloc (.cells #[.int .i64 0, .int .i64 1] 3)).heap.size = w.heap.size + 1 + 1 + 1 + 1 + 1 by simp] at h
    exact h

end Go.Proofs.YtkddkkcfpnndlaaDoor

namespace Go.Proofs.YtkddkkcfpnndlaaDoor
open Go.RowKit

def m2 : Mkt := ⟨[0, 0], [[4, 4], [4, 4], [3, 0]], [0, 1, 2]⟩
def m2w (w : World) (N : Nat) : World := (((((((w.alloc (.cells #[.int .i64 0, .int .i64 0] 3)).alloc (.cells #[.int .i64 4, .int .i64 4] 3)).alloc (.cells #[.int .i64 4, .int .i64 4] 3)).alloc (.cells #[.int .i64 3, .int .i64 0] 3)).alloc (.cells #[.slice (some ⟨N + 1, 0, none⟩) 2 2, .slice (some ⟨N + 1 + 1, 0, none⟩) 2 2, .slice (some ⟨N + 1 + 1 + 1, 0, none⟩) 2 2] 22)).alloc (.cells #[.int .i64 0, .int .i64 1, .int .i64 2] 3)).alloc (.cells #[.slice (some ⟨N, 0, none⟩) 2 2, .slice (some ⟨N + 1 + 1 + 1 + 1, 0, none⟩) 3 3, .slice (some ⟨N + 1 + 1 + 1 + 1 + 1, 0, none⟩) 3 3] 25))
structure M2At (w : World) (N : Nat) (W : World) : Prop where
  mkt : MktAt W (some ⟨N, 0, none⟩) (some ⟨N + 1 + 1 + 1 + 1, 0, none⟩) (some ⟨N + 1 + 1 + 1 + 1 + 1, 0, none⟩) 2 2 3 3 3 3 m2
  row : VRow W (N + 1 + 1 + 1 + 1 + 1 + 1) 25 [.slice (some ⟨N, 0, none⟩) 2 2, .slice (some ⟨N + 1 + 1 + 1 + 1, 0, none⟩) 3 3, .slice (some ⟨N + 1 + 1 + 1 + 1 + 1, 0, none⟩) 3 3]
  below : Below w.heap.size w W
theorem M2At.step {w W W' : World} {N : Nat} (h : M2At w N W) (hb : Below W.heap.size W W') : M2At w N W' :=
  ⟨h.mkt.below hb (Nat.le_refl _), h.row.below hb h.row.lt, h.below.trans (hb.mono h.below.size)⟩
theorem m2_at (w : World) (N : Nat) (hN : w.heap.size = N) : M2At w N (m2w w N) := by
  subst hN
  have hB : Below w.heap.size w (m2w w w.heap.size) := (((((((Below.refl _ w).alloc (Nat.le_refl _) _).alloc (by simp) _).alloc (by simp; omega) _).alloc (by simp; omega) _).alloc (by simp; omega) _).alloc (by simp; omega) _).alloc (by simp; omega) _
  have r0 : Row (m2w w w.heap.size) (w.heap.size) 3 [0, 0] := (((((((Row.new' (w) 3 [0, 0] (by simp)).alloc _).alloc _).alloc _).alloc _).alloc _).alloc _)
  have r1 : Row (m2w w w.heap.size) (w.heap.size + 1) 3 [4, 4] := ((((((Row.new' ((w.alloc (.cells #[.int .i64 0, .int .i64 0] 3))) 3 [4, 4] (by simp)).alloc _).alloc _).alloc _).alloc _).alloc _)
  have r2 : Row (m2w w w.heap.size) (w.heap.size + 1 + 1) 3 [4, 4] := (((((Row.new' (((w.alloc (.cells #[.int .i64 0, .int .i64 0] 3)).alloc (.cells #[.int .i64 4, .int .i64 4] 3))) 3 [4, 4] (by simp)).alloc _).alloc _).alloc _).alloc _)
  have r3 : Row (m2w w w.heap.size) (w.heap.size + 1 + 1 + 1) 3 [3, 0] := ((((Row.new' ((((w.alloc (.cells #[.int .i64 0, .int .i64 0] 3)).alloc (.cells #[.int .i64 4, .int .i64 4] 3)).alloc (.cells #[.int .i64 4, .int .i64 4] 3))) 3 [3, 0] (by simp)).alloc _).alloc _).alloc _)
  have r5 : Row (m2w w w.heap.size) (w.heap.size + 1 + 1 + 1 + 1 + 1) 3 [0, 1, 2] := ((Row.new' ((((((w.alloc (.cells #[.int .i64 0, .int .i64 0] 3)).alloc (.cells #[.int .i64 4, .int .i64 4] 3)).alloc (.cells #[.int .i64 4, .int .i64 4] 3)).alloc (.cells #[.int .i64 3, .int .i64 0] 3)).alloc (.cells #[.slice (some ⟨w.heap.size + 1, 0, none⟩) 2 2, .slice (some ⟨w.heap.size + 1 + 1, 0, none⟩) 2 2, .slice (some ⟨w.heap.size + 1 + 1 + 1, 0, none⟩) 2 2] 22))) 3 [0, 1, 2] (by simp)).alloc _)
  have v4 : VRow (m2w w w.heap.size) (w.heap.size + 1 + 1 + 1 + 1) 22 [.slice (some ⟨w.heap.size + 1, 0, none⟩) 2 2, .slice (some ⟨w.heap.size + 1 + 1, 0, none⟩) 2 2, .slice (some ⟨w.heap.size + 1 + 1 + 1, 0, none⟩) 2 2] := by
    have h := VRow.new (((((w.alloc (.cells #[.int .i64 0, .int .i64 0] 3)).alloc (.cells #[.int .i64 4, .int .i64 4] 3)).alloc (.cells #[.int .i64 4, .int .i64 4] 3)).alloc (.cells #[.int .i64 3, .int .i64 0] 3))) 22 [.slice (some ⟨w.heap.size + 1, 0, none⟩) 2 2, .slice (some ⟨w.heap.size + 1 + 1, 0, none⟩) 2 2, .slice (some ⟨w.heap.size + 1 + 1 + 1, 0, none⟩) 2 2]
    rw [show (((((w.alloc (.cells #[.int .i64 0, .int .i64 0] 3)).alloc (.cells #[.int .i64 4, .int .i64 4] 3)).alloc (.cells #[.int .i64 4, .int .i64 4] 3)).alloc (.cells #[.int .i64 3, .int .i64 0] 3))).heap.size = w.heap.size + 1 + 1 + 1 + 1 by simp] at h
    exact (h.alloc _).alloc _
  refine ⟨⟨row_lit r0 rfl (by omega) (by decide), rows_lit v4 rfl rfl (by omega) fun i xs hi => ?_, row_lit r5 rfl (by omega) (by decide)⟩, ?_, hB⟩
  · match i, hi with
    | 0, hi => cases hi; exact ⟨_, _, rfl, row_lit r1 rfl (by decide) (by decide)⟩
    | 1, hi => cases hi; exact ⟨_, _, rfl, row_lit r2 rfl (by decide) (by decide)⟩
    | 2, hi => cases hi; exact ⟨_, _, rfl, row_lit r3 rfl (by decide) (by decide)⟩
  · have h := VRow.new (((((((w.alloc (.cells #[.int .i64 0, .int .i64 0] 3)).alloc (.cells #[.int .i64 4, .int .i64 4] 3)).alloc (.cells #[.int .i64 4, .int .i64 4] 3)).alloc (.cells #[.int .i64 3, .int .i64 0] 3)).alloc (.cells #[.slice (some ⟨w.heap.size + 1, 0, none⟩) 2 2, .slice (some ⟨w.heap.size + 1 + 1, 0, none⟩) 2 2, .slice (some ⟨w.heap.size + 1 + 1 + 1, 0, none⟩) 2 2] 22)).alloc (.cells #[.int .i64 0, .int .i64 1, .int .i64 2] 3))) 25 [.slice (some ⟨w.heap.size, 0, none⟩) 2 2, .slice (some ⟨w.heap.size + 1 + 1 + 1 + 1, 0, none⟩) 3 3, .slice (some ⟨w.heap.size + 1 + 1 + 1 + 1 + 1, 0, none⟩) 3 3]
    rw [show (((((((w.alloc (.cells #[.int .i64 0, .int .i64 0] 3)).alloc (.cells #[.int .i64 4, .int .i64 4] 3)).alloc (.cells #[.int .i64 4, .int .i64 4] 3)).alloc (.cells #[.int .i64 3, .int .i64 0] 3)).alloc (.cells #[.slice (some ⟨w.heap.size + 1, 0, none⟩) 2 2, .slice (some ⟨w.heap.size + 1 + 1, 0, none⟩) 2 2, .slice (some ⟨w.heap.size + 1 + 1 + 1, 0, none⟩) 2 2] 22)).alloc (.cells #[.int .i64 0, .int .i64 1, .int .i64 2] 3))).heap.size = w.heap.size + 1 + 1 + 1 + 1 + 1 + 1 by simp] at h
    exact h
end Go.Proofs.YtkddkkcfpnndlaaDoor

namespace Go.Proofs.YtkddkkcfpnndlaaDoor
open Go.RowKit

/-- a rise's state: a market, prices, what is wanted, who must have -/
structure StAt (w : World) (S : Nat) (ra ba oa qa wa ua : Option Addr) (rn rc bn bc on oc qn qc un uc : Nat) (m : Mkt) (q : List Int) (wants : List (List Int)) (must : List Int) : Prop where
  c0 : w.cell? ⟨S, 0, none⟩ = some (.slice ra rn rc)
  c1 : w.cell? ⟨S, 1, none⟩ = some (.slice ba bn bc)
  c2 : w.cell? ⟨S, 2, none⟩ = some (.slice oa on oc)
  c3 : w.cell? ⟨S, 3, none⟩ = some (.slice qa qn qc)
  c4 : w.cell? ⟨S, 4, none⟩ = some (.slice wa bn bn)
  c5 : w.cell? ⟨S, 5, none⟩ = some (.slice ua un uc)
  mkt : MktAt w ra ba oa rn rc bn bc on oc m
  pr : Ints w qa qn qc q
  wants : Rows w wa bn bn wants
  must : Ints w ua un uc must
theorem StAt.below {w w' : World} {S : Nat} {ra ba oa qa wa ua : Option Addr} {rn rc bn bc on oc qn qc un uc : Nat} {m : Mkt} {q : List Int} {wants : List (List Int)} {must : List Int}
    (h : StAt w S ra ba oa qa wa ua rn rc bn bc on oc qn qc un uc m q wants must) {B : Nat} (hb : Below B w w') (hB : w.heap.size ≤ B) : StAt w' S ra ba oa qa wa ua rn rc bn bc on oc qn qc un uc m q wants must := by
  have hs := block_lt_of_cell h.c0
  have hc : ∀ k, w'.cell? ⟨S, k, none⟩ = w.cell? ⟨S, k, none⟩ := fun k => hb.cell (p := ⟨S, k, none⟩) (by simp at hs ⊢; omega)
  exact ⟨(hc _).trans h.c0, (hc _).trans h.c1, (hc _).trans h.c2, (hc _).trans h.c3, (hc _).trans h.c4, (hc _).trans h.c5, h.mkt.below hb hB, h.pr.below hb hB, h.wants.below hb hB, h.must.below hb hB⟩

end Go.Proofs.YtkddkkcfpnndlaaDoor
