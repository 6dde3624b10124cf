/- Walks: markets.Gains. Walks: a rise's state in memory; what a bidder has by an item. Walks: forests: a view of an outcome: does it fit? -/
import Derived.Test.YtkddkkcfpnndlaaGreatDoorPg27
import Derived.Test.YtkddkkcfpnndlaaGreatDoorPg28
import Derived.BigRegion
namespace Go.Proofs.YtkddkkcfpnndlaaGreatDoor
open Go.RowKit

/-- the world behind the copy of a market -/
def mw (w : World) (ra ba oa : Option Addr) (rn rc bn bc on oc : Nat) : World := w.alloc (.cells #[.slice ra rn rc, .slice ba bn bc, .slice oa on oc] 57)
/-- a market in memory -/
structure MktAt (w : World) (ra ba oa : Option Addr) (rn rc bn bc on oc : Nat) (m : Mkt) : Prop where
  res : Ints w ra rn rc m.res
  bids : Rows w ba bn bc m.bids
  ord : Ints w oa on oc m.ord
theorem MktAt.below {w w' : World} {ra ba oa : Option Addr} {rn rc bn bc on oc : Nat} {m : Mkt} (h : MktAt w ra ba oa rn rc bn bc on oc m) {B : Nat} (hb : Below B w w') (hB : w.heap.size ≤ B) : MktAt w' ra ba oa rn rc bn bc on oc m :=
  ⟨h.res.below hb hB, h.bids.below hb hB, h.ord.below hb hB⟩

end Go.Proofs.YtkddkkcfpnndlaaGreatDoor

namespace Go.Proofs.YtkddkkcfpnndlaaGreatDoor
open Go.RowKit

/-- a rise's state: a market, prices, what is wanted, who must have -/
structure StAt (w : World) (S : Nat) (ra ba oa qa wa ua : Option Addr) (rn rc bn bc on oc qn qc un uc : Nat) (m : Mkt) (q : List Int) (wants : List (List Int)) (must : List Int) : Prop where
  c0 : w.cell? ⟨S, 0, none⟩ = some (.slice ra rn rc)
  c1 : w.cell? ⟨S, 1, none⟩ = some (.slice ba bn bc)
  c2 : w.cell? ⟨S, 2, none⟩ = some (.slice oa on oc)
  c3 : w.cell? ⟨S, 3, none⟩ = some (.slice qa qn qc)
  c4 : w.cell? ⟨S, 4, none⟩ = some (.slice wa bn bn)
  c5 : w.cell? ⟨S, 5, none⟩ = some (.slice ua un uc)
  mkt : MktAt w ra ba oa rn rc bn bc on oc m
  pr : Ints w qa qn qc q
  wants : Rows w wa bn bn wants
  must : Ints w ua un uc must
theorem StAt.below {w w' : World} {S : Nat} {ra ba oa qa wa ua : Option Addr} {rn rc bn bc on oc qn qc un uc : Nat} {m : Mkt} {q : List Int} {wants : List (List Int)} {must : List Int}
    (h : StAt w S ra ba oa qa wa ua rn rc bn bc on oc qn qc un uc m q wants must) {B : Nat} (hb : Below B w w') (hB : w.heap.size ≤ B) : StAt w' S ra ba oa qa wa ua rn rc bn bc on oc qn qc un uc m q wants must := by
  have hs := block_lt_of_cell h.c0
  have hc : ∀ k, w'.cell? ⟨S, k, none⟩ = w.cell? ⟨S, k, none⟩ := fun k => hb.cell (p := ⟨S, k, none⟩) (by simp at hs ⊢; omega)
  exact ⟨(hc _).trans h.c0, (hc _).trans h.c1, (hc _).trans h.c2, (hc _).trans h.c3, (hc _).trans h.c4, (hc _).trans h.c5, h.mkt.below hb hB, h.pr.below hb hB, h.wants.below hb hB, h.must.below hb hB⟩

end Go.Proofs.YtkddkkcfpnndlaaGreatDoor

namespace Go.Proofs.YtkddkkcfpnndlaaGreatDoor
open Go.RowKit Sale

/-- an outcome -/
structure Outc where
  has : List Int
  prices : List Int

structure FitOk (m : Mkt) (o : Outc) : Prop where
  mok : MOk m
  chk : mcheck m = true
  hlen : o.has.length = m.bids.length
  plen : o.prices.length = m.res.length
  item : ∀ x, x ∈ o.has → -1 ≤ x ∧ x < (m.res.length : Int)
/-- the outcome's cells; a view -/
structure OutAt (w : World) (ha pa : Option Addr) (hn hc pn pc : Nat) (o : Outc) : Prop where
  has : Ints w ha hn hc o.has
  prices : Ints w pa pn pc o.prices
theorem OutAt.below {w w' : World} {ha pa : Option Addr} {hn hc pn pc : Nat} {o : Outc} (h : OutAt w ha pa hn hc pn pc o) {B : Nat} (hb : Below B w w') (hB : w.heap.size ≤ B) : OutAt w' ha pa hn hc pn pc o := ⟨h.has.below hb hB, h.prices.below hb hB⟩
end Go.Proofs.YtkddkkcfpnndlaaGreatDoor
