/- Walks: forests: a view of an outcome: does it fit? A region that draws its order: one walk in the order of the text serves every order, if each operation keeps the world within a class, and yields one value in all of it. Walks: forests: what a bidder has by an item; would it as well have it; does an item cost its reserve? Is an outcome even: as a word of the code, and in the words of the plain texts. Walks: outcomes.has, outcomes.Pays; the state of Even. -/
import Derived.Test.YtkddkkcfpnndlaaGreatDoorOq09
import Derived.Test.YtkddkkcfpnndlaaGreatDoorOq00
import Derived.Test.YtkddkkcfpnndlaaGreatDoorOq10
import Derived.BigQuiet
import Derived.Deep.CutBlock
namespace Go.Proofs.YtkddkkcfpnndlaaGreatDoor
open Go.RowKit Sale

structure Outc where
 has : List Int
 prices : List Int

structure OutAt (w : World) (ha pa : Option Addr) (hn hc pn pc : Nat) (o : Outc) : Prop where
 has : Ints w ha hn hc o.has
 prices : Ints w pa pn pc o.prices
theorem OutAt.below {w w' : World} {ha pa : Option Addr} {hn hc pn pc : Nat} {o : Outc} (h : OutAt w ha pa hn hc pn pc o) {B : Nat} (hb : Below B w w') (hB : w.heap.size ≤ B) : OutAt w' ha pa hn hc pn pc o := ⟨h.has.below hb hB, h.prices.below hb hB⟩
end Go.Proofs.YtkddkkcfpnndlaaGreatDoor

namespace Go.Proofs.YtkddkkcfpnndlaaGreatDoor
open Go.RowKit

structure Kept (S : World → Prop) where
 w : World
 h : S w

theorem wp_region_kept {P : Program} (S : World → Prop) {id : Nat} {Q : Exit → Act → World → Prop} {a : Act} {w : World} {l : List Oper} (hm : P.follows .mixedOrders = true) (hB : Region.lexB .any l.toArray = true) (hS : S w.drew)
   (h : wpQuiet P l.toArray (fun w' => ∃ y : Kept S, w' = y.w) (fun a' => ∀ w', (∃ y : Kept S, w' = y.w) → Q .normal a' w') l a) : (Code.region id l.toArray true).wp P Q a w :=
 wp_region_quiet (C := fun w' => ∃ y : Kept S, w' = y.w) hm hB ⟨⟨_, hS⟩, rfl⟩ (by simpa using h)

theorem Kept.call {P : Program} {S : World → Prop} {f : FuncId} {args : Array Value} {w : World} {v : Value} (h : Calls P f args w fun e w' => e = .returned v ∧ S w') :
   Calls P f args w fun e w' => e = .returned v ∧ ∃ y : Kept S, w' = y.w :=
 h.mono fun _ w' ⟨he, hs⟩ => ⟨he, ⟨w', hs⟩, rfl⟩
end Go.Proofs.YtkddkkcfpnndlaaGreatDoor

namespace Go.Proofs.YtkddkkcfpnndlaaGreatDoor
open Go.RowKit Sale

def bidAt (m : Mkt) (i k : Nat) : Int := (m.bids.getD i []).getD k 0
def byV (m : Mkt) (o : Outc) (i : Nat) (x : Int) : Int := if x = -1 then 0 else wrap64 (bidAt m i x.toNat - o.prices.getD x.toNat 0)
theorem getD_at {l : List Int} {k : Nat} {x d : Int} (h : l[k]? = some x) : l.getD k d = x := by rw [List.getD_eq_getElem?_getD, h]; rfl
end Go.Proofs.YtkddkkcfpnndlaaGreatDoor

namespace Go.Proofs.YtkddkkcfpnndlaaGreatDoor
open Go.RowKit Sale

def evBid (m : Mkt) (o : Outc) (i : Nat) (x : Int) : Bool :=
 decide (-1 ≤ x) && (decide (x < (o.prices.length : Int)) && (if (m.bids.getD i []).length = 0 then x == -1 else decide (0 ≤ byV m o i x) && (List.range o.prices.length).all fun k => decide (byV m o i (k : Int) ≤ byV m o i x)))
def evBids (m : Mkt) (o : Outc) (n : Nat) : Bool := (List.range n).all fun i => evBid m o i (o.has.getD i (-1))
def evPrice (m : Mkt) (o : Outc) (k : Nat) : Bool := decide (m.res.getD k 0 ≤ o.prices.getD k 0) && (decide (o.prices.getD k 0 ≤ 2000000) && (decide (0 < o.has.count (k : Int)) || o.prices.getD k 0 == m.res.getD k 0))
def evPrices (m : Mkt) (o : Outc) (n : Nat) : Bool := (List.range n).all (evPrice m o)
def evOnce (o : Outc) (n : Nat) : Bool := (List.range n).all fun k => decide (o.has.count (k : Int) ≤ 1)
def evenB (m : Mkt) (o : Outc) : Bool := mcheck m && (decide (o.has.length = m.bids.length) && (decide (o.prices.length = m.res.length) && (evBids m o o.has.length && (evPrices m o o.prices.length && evOnce o o.prices.length))))

def qOf (m : Mkt) (prices : List Int) (k : Nat) : Int := prices.getD k 0 - m.res.getD k 0

theorem getD_mem {l : List Int} {k : Nat} (h : k < l.length) (d : Int) : l.getD k d ∈ l := by
 rw [List.getD_eq_getElem?_getD, List.getElem?_eq_getElem h]; exact List.getElem_mem _
theorem getD_some {l : List Int} {k : Nat} (h : k < l.length) (d : Int) : l[k]? = some (l.getD k d) := by
 rw [List.getD_eq_getElem?_getD, List.getElem?_eq_getElem h]; rfl

theorem MOk.bid_at {m : Mkt} (h : MOk m) {i : Nat} (hi : i < m.bids.length) : m.bids.getD i [] = [] ∨ ((m.bids.getD i []).length = m.res.length ∧ ∀ k, k < m.res.length → 0 ≤ bidAt m i k ∧ bidAt m i k ≤ 1000000) := by
 have hg : m.bids.getD i [] = m.bids[i] := by rw [List.getD_eq_getElem?_getD, List.getElem?_eq_getElem hi]; rfl
 rcases h.bid _ (List.getElem_mem hi) with e | ⟨h1, h2⟩
 · exact .inl (hg.trans e)
 · refine .inr ⟨by rw [hg]; exact h1, fun k hk => ?_⟩
   unfold bidAt
   rw [hg]
   exact h2 _ (getD_mem (by omega) 0)
theorem gain_at {m : Mkt} (_h : MOk m) (prices : List Int) {i k : Nat} (hi : i < m.bids.length) (hk : k < m.res.length) :
   gi (gainsM m) i k - qOf m prices k = if m.bids.getD i [] = [] then -1 - qOf m prices k else bidAt m i k - prices.getD k 0 := by
 have hg : m.bids.getD i [] = m.bids[i] := by rw [List.getD_eq_getElem?_getD, List.getElem?_eq_getElem hi]; rfl
 rw [gi_bid hi hk, hg]
 unfold bidAt qOf
 rw [hg]
 split
 · rfl
 · omega
end Go.Proofs.YtkddkkcfpnndlaaGreatDoor

namespace Go.Proofs.YtkddkkcfpnndlaaGreatDoor
open Go.RowKit Sale

def hasV (b p : List Int) (x : Int) : Int := if x = -1 then 0 else wrap64 (b.getD x.toNat 0 - p.getD x.toNat 0)
theorem byV_has (m : Mkt) (o : Outc) (i : Nat) (x : Int) : byV m o i x = hasV (m.bids.getD i []) o.prices x := rfl
theorem hasV_bd (b p : List Int) (x : Int) : -9223372036854775808 ≤ hasV b p x ∧ hasV b p x ≤ 9223372036854775807 := by
 unfold hasV wrap64
 split <;> omega

set_option maxRecDepth 100000 in
set_option maxHeartbeats 2000000 in
theorem ohas_any (la pa : Option Addr) (ln lc pn pc : Nat) (b p : List Int) (x : Int) (w : World) (hb : Ints w la ln lc b) (hp : Ints w pa pn pc p) (hx1 : -1 ≤ x) (hx2 : x < (ln : Int)) (hx3 : x < (pn : Int)) :
   Calls Tryz.prog 120 #[.slice la ln lc, .slice pa pn pc, .int .i64 x] w fun e w' => e = .returned (.int .i64 (hasV b p x)) ∧ Below w.heap.size w w' := by
 by_cases hx : x = -1
 · subst hx
   clear hb hp
   go_enter Tryz.func120, Tryz.ntmps120
   go_wp2_with fail
   go_ret
   exact ⟨rfl, Below.refl _ _⟩
 · obtain ⟨k, rfl⟩ := Int.eq_ofNat_of_zero_le (show 0 ≤ x by omega)
   have hk : k < ln := by omega
   have hk2 : k < pn := by omega
   obtain ⟨y, hy, _⟩ := hb.get hk
   obtain ⟨q, hq, _⟩ := hp.get hk2
   obtain ⟨lb, lo, rfl⟩ := hb.addr (by omega)
   obtain ⟨pb, po, rfl⟩ := hp.addr (by omega)
   have cy := hb.cell lb lo rfl k y hy
   have cq := hp.cell pb po rfl k q hq
   have hv : hasV b p (k : Int) = wrap64 (y - q) := by
     unfold hasV
     rw [if_neg hx, Int.toNat_natCast, getD_at hy, getD_at hq]
   rw [hv]
   have e1 : ((k : Int) == -1) = false := by simp
   have i1 : (k : Int) < (ln : Int) := by omega
   have i2 : (k : Int) < (pn : Int) := by omega
   clear hv hy hq hb hp hx hx1 hx2 hx3
   go_enter Tryz.func120, Tryz.ntmps120
   go_wp2_with fail
   go_quiet (fail)
   go_wp2_with fail
   go_ret
   exact ⟨rfl, below_drewN (Below.refl _ _) _⟩

def paysV (o : Outc) (i : Int) : Int := if 0 ≤ i ∧ i < (o.has.length : Int) ∧ 0 ≤ o.has.getD i.toNat (-1) ∧ o.has.getD i.toNat (-1) < (o.prices.length : Int) then o.prices.getD (o.has.getD i.toNat (-1)).toNat 0 else 0
set_option maxRecDepth 100000 in
set_option maxHeartbeats 2000000 in
theorem pays_any (ha pa : Option Addr) (hn hc pn pc : Nat) (o : Outc) (i : Int) (w : World) (ho : OutAt w ha pa hn hc pn pc o) :
   Calls Tryz.prog 53 #[.agg #[.slice ha hn hc, .slice pa pn pc], .int .i64 i] w fun e w' => e = .returned (.int .i64 (paysV o i)) ∧ Below w.heap.size w w' := by
 have hhl := ho.has.len
 have hpl := ho.prices.len
 have hb0 : Below w.heap.size w (w.alloc (.cells #[.slice ha hn hc, .slice pa pn pc] 70)) := (Below.refl _ _).alloc (Nat.le_refl _) _
 have HB0 := Lib.hid hb0
 by_cases h1 : i < 0
 · have hv : paysV o i = 0 := by unfold paysV; rw [if_neg (by omega)]
   rw [hv]; clear hv hhl hpl ho hb0
   go_enter Tryz.func53, Tryz.ntmps53
   go_wp2_with fail
   go_ret
   exact ⟨rfl, HB0.out⟩
 · obtain ⟨k, rfl⟩ := Int.eq_ofNat_of_zero_le (show 0 ≤ i by omega)
   by_cases h2 : hn ≤ k
   · have hv : paysV o (k : Int) = 0 := by unfold paysV; rw [if_neg (by omega)]
     rw [hv]
     have e1 : decide ((hn : Int) ≤ (k : Int)) = true := by simp; omega
     have e2 : decide ((k : Int) < 0) = false := by simp
     have e3 : decide (hn ≤ k) = true := by simpa using h2
     clear hv hhl hpl ho hb0 h1 h2
     go_enter Tryz.func53, Tryz.ntmps53
     go_wp2_with fail
     go_ret
     exact ⟨rfl, HB0.out⟩
   · have hk : k < hn := by omega
     have ho1 := ho.below hb0 (Nat.le_refl _)
     obtain ⟨x, hx, _⟩ := ho1.has.get hk
     obtain ⟨hb, hbo, rfl⟩ := ho1.has.addr (by omega)
     have cx := ho1.has.cell hb hbo rfl k x hx
     have e1 : decide ((hn : Int) ≤ (k : Int)) = false := by simp; omega
     have e2 : decide ((k : Int) < 0) = false := by simp
     have e3 : decide (hn ≤ k) = false := by simpa using h2
     have i1 : (k : Int) < (hn : Int) := by omega
     have hg : o.has.getD k (-1) = x := getD_at hx
     by_cases h3 : x < 0
     · have hv : paysV o (k : Int) = 0 := by unfold paysV; rw [Int.toNat_natCast, hg, if_neg (by omega)]
       rw [hv]
       have f1 : decide (0 ≤ x) = false := by simp; omega
       clear hv hhl hpl ho hb0 h1 h2 ho1 hx hg h3
       go_enter Tryz.func53, Tryz.ntmps53
       go_wp2_with fail
       go_ret
       exact ⟨rfl, HB0.out⟩
     · obtain ⟨j, rfl⟩ := Int.eq_ofNat_of_zero_le (show 0 ≤ x by omega)
       have f1 : decide (0 ≤ (j : Int)) = true := by simp
       by_cases h4 : j < pn
       · have hv : paysV o (k : Int) = o.prices.getD j 0 := by unfold paysV; rw [Int.toNat_natCast, hg, if_pos (by omega), Int.toNat_natCast]
         obtain ⟨p, hp, _⟩ := ho1.prices.get h4
         obtain ⟨pb, po, rfl⟩ := ho1.prices.addr (by omega)
         have cp := ho1.prices.cell pb po rfl j p hp
         rw [hv, getD_at hp]
         have f2 : decide ((j : Int) < (pn : Int)) = true := by simp; omega
         have f3 : decide (j < pn) = true := by simpa using h4
         have i2 : (j : Int) < (pn : Int) := by omega
         clear hv hhl hpl ho hb0 h1 h2 ho1 hx hg h3 hp
         go_enter Tryz.func53, Tryz.ntmps53
         go_wp2_with fail
         go_ret
         exact ⟨rfl, HB0.out⟩
       · have hv : paysV o (k : Int) = 0 := by unfold paysV; rw [Int.toNat_natCast, hg, if_neg (by omega)]
         rw [hv]
         have f2 : decide ((j : Int) < (pn : Int)) = false := by simp; omega
         have f3 : decide (j < pn) = false := by simpa using h4
         clear hv hhl hpl ho hb0 h1 h2 ho1 hx hg h3 h4
         go_enter Tryz.func53, Tryz.ntmps53
         go_wp2_with fail
         go_ret
         exact ⟨rfl, HB0.out⟩

structure EvAt (w : World) (B5 B6 : Nat) (ra ba oa ha pa : Option Addr) (rn rc bn bc on oc hn hc pn pc : Nat) (own free : List Int) (wr : World) : Prop where
 b2 : VRow wr w.heap.size 57 [.slice ra rn rc, .slice ba bn bc, .slice oa on oc]
 b3 : VRow wr (w.heap.size + 1) 70 [.slice ha hn hc, .slice pa pn pc]
 r5 : Row wr B5 114 own
 r6 : Row wr B6 114 free
 below : Below w.heap.size w wr
 lo : w.heap.size + 1 < B5
 ne : B5 < B6
theorem EvAt.step {w : World} {B5 B6 : Nat} {ra ba oa ha pa : Option Addr} {rn rc bn bc on oc hn hc pn pc : Nat} {own free : List Int} {wr wr' : World} (h : EvAt w B5 B6 ra ba oa ha pa rn rc bn bc on oc hn hc pn pc own free wr) (hb : Below wr.heap.size wr wr') : EvAt w B5 B6 ra ba oa ha pa rn rc bn bc on oc hn hc pn pc own free wr' :=
 ⟨h.b2.below hb h.b2.lt, h.b3.below hb h.b3.lt, h.r5.below hb h.r5.lt, h.r6.below hb h.r6.lt, h.below.trans (hb.mono h.below.size), h.lo, h.ne⟩
theorem EvAt.set5 {w : World} {B5 B6 : Nat} {ra ba oa ha pa : Option Addr} {rn rc bn bc on oc hn hc pn pc : Nat} {own free : List Int} {wr : World} (h : EvAt w B5 B6 ra ba oa ha pa rn rc bn bc on oc hn hc pn pc own free wr) (k : Nat) (v : Int) : EvAt w B5 B6 ra ba oa ha pa rn rc bn bc on oc hn hc pn pc (own.set k v) free (wr.setCell ⟨B5, k, none⟩ (.int .i64 v)) := by
 have h1 := h.lo
 have h2 := h.ne
 refine ⟨?_, ?_, h.r5.set k v, h.r6.other (by show B6 ≠ B5; omega) _, h.below.setCell (p := ⟨B5, k, none⟩) (by show _ ≤ B5; omega) _, h1, h2⟩
 · unfold VRow; rw [heap_setCell_other wr ⟨B5, k, none⟩ _ _ (by show w.heap.size ≠ B5; omega)]; exact h.b2
 · unfold VRow; rw [heap_setCell_other wr ⟨B5, k, none⟩ _ _ (by show w.heap.size + 1 ≠ B5; omega)]; exact h.b3
theorem EvAt.set6 {w : World} {B5 B6 : Nat} {ra ba oa ha pa : Option Addr} {rn rc bn bc on oc hn hc pn pc : Nat} {own free : List Int} {wr : World} (h : EvAt w B5 B6 ra ba oa ha pa rn rc bn bc on oc hn hc pn pc own free wr) (k : Nat) (v : Int) : EvAt w B5 B6 ra ba oa ha pa rn rc bn bc on oc hn hc pn pc own (free.set k v) (wr.setCell ⟨B6, k, none⟩ (.int .i64 v)) := by
 have h1 := h.lo
 have h2 := h.ne
 refine ⟨?_, ?_, h.r5.other (by show B5 ≠ B6; omega) _, h.r6.set k v, h.below.setCell (p := ⟨B6, k, none⟩) (by show _ ≤ B6; omega) _, h1, h2⟩
 · unfold VRow; rw [heap_setCell_other wr ⟨B6, k, none⟩ _ _ (by show w.heap.size ≠ B6; omega)]; exact h.b2
 · unfold VRow; rw [heap_setCell_other wr ⟨B6, k, none⟩ _ _ (by show w.heap.size + 1 ≠ B6; omega)]; exact h.b3
end Go.Proofs.YtkddkkcfpnndlaaGreatDoor
