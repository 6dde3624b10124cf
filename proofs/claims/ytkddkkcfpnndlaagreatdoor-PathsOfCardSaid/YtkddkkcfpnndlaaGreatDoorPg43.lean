/- Walks: forests: what a bidder has by an item; would it as well have it; does an item cost its reserve? Is an outcome even: as a word of the code, and in the words of the plain texts. Walks: markets.Without. Walks: payments: the book of a market, and what all have but one. -/
import Derived.Test.YtkddkkcfpnndlaaGreatDoorPg29
import Derived.Test.YtkddkkcfpnndlaaGreatDoorPg07
import Derived.Test.YtkddkkcfpnndlaaGreatDoorPg10
import Derived.Test.YtkddkkcfpnndlaaGreatDoorPg19
import Derived.Test.YtkddkkcfpnndlaaGreatDoorPg12
import Derived.Deep.RegionHeld3
import Derived.Deep.DeepCutAuto
namespace Go.Proofs.YtkddkkcfpnndlaaGreatDoor
open Go.RowKit Sale

def bidAt (m : Mkt) (i k : Nat) : Int := (m.bids.getD i []).getD k 0
theorem getD_at {l : List Int} {k : Nat} {x d : Int} (h : l[k]? = some x) : l.getD k d = x := by rw [List.getD_eq_getElem?_getD, h]; rfl
end Go.Proofs.YtkddkkcfpnndlaaGreatDoor

namespace Go.Proofs.YtkddkkcfpnndlaaGreatDoor
open Go.RowKit Sale

/-- prices above the reserves -/
def qOf (m : Mkt) (prices : List Int) (k : Nat) : Int := prices.getD k 0 - m.res.getD k 0

structure EvOk (m : Mkt) (o : Outc) : Prop where
  fit : FitOk m o
  pr : ∀ k, k < m.res.length → m.res.getD k 0 ≤ o.prices.getD k 0 ∧ o.prices.getD k 0 ≤ 2000000
  even : Even (gi (gainsM m)) m.res.length m.bids.length (qOf m o.prices) (slotOf o.has)

theorem getD_mem {l : List Int} {k : Nat} (h : k < l.length) (d : Int) : l.getD k d ∈ l := by
  rw [List.getD_eq_getElem?_getD, List.getElem?_eq_getElem h]; exact List.getElem_mem _
theorem getD_some {l : List Int} {k : Nat} (h : k < l.length) (d : Int) : l[k]? = some (l.getD k d) := by
  rw [List.getD_eq_getElem?_getD, List.getElem?_eq_getElem h]; rfl

theorem MOk.bid_at {m : Mkt} (h : MOk m) {i : Nat} (hi : i < m.bids.length) : m.bids.getD i [] = [] ∨ ((m.bids.getD i []).length = m.res.length ∧ ∀ k, k < m.res.length → 0 ≤ bidAt m i k ∧ bidAt m i k ≤ 1000000) := by
  have hg : m.bids.getD i [] = m.bids[i] := by rw [List.getD_eq_getElem?_getD, List.getElem?_eq_getElem hi]; rfl
  rcases h.bid _ (List.getElem_mem hi) with e | ⟨h1, h2⟩
  · exact .inl (hg.trans e)
  · refine .inr ⟨by rw [hg]; exact h1, fun k hk => ?_⟩
    unfold bidAt
    rw [hg]
    exact h2 _ (getD_mem (by omega) 0)
/-- what one has by an item, at prices that may be -/
theorem gain_at {m : Mkt} (_h : MOk m) (prices : List Int) {i k : Nat} (hi : i < m.bids.length) (hk : k < m.res.length) :
    gi (gainsM m) i k - qOf m prices k = if m.bids.getD i [] = [] then -1 - qOf m prices k else bidAt m i k - prices.getD k 0 := by
  have hg : m.bids.getD i [] = m.bids[i] := by rw [List.getD_eq_getElem?_getD, List.getElem?_eq_getElem hi]; rfl
  rw [gi_bid hi hk, hg]
  unfold bidAt qOf
  rw [hg]
  split
  · rfl
  · omega
end Go.Proofs.YtkddkkcfpnndlaaGreatDoor

namespace Go.Proofs.YtkddkkcfpnndlaaGreatDoor
open Go.RowKit

theorem Below.step {B : Nat} {w w1 w2 : World} (hb : Below w1.heap.size w1 w2) (h : Below B w w1) (hB : B ≤ w1.heap.size) : Below B w w2 := h.trans (hb.mono hB)
theorem VRow.step {w w' : World} {B : Nat} {T : TypeId} {vals : List Value} (h : VRow w B T vals) (hb : Below w.heap.size w w') : VRow w' B T vals := h.below hb h.lt

end Go.Proofs.YtkddkkcfpnndlaaGreatDoor

namespace Go.Proofs.YtkddkkcfpnndlaaGreatDoor
open Go.RowKit Sale

/-- the order as numbers of no sign; who has what -/
def ordN (m : Mkt) : List Nat := m.ord.map Int.toNat
def hasM (m : Mkt) : List Int := firstOf (gainsM m) m.res.length (ordN m)
theorem hasM_length (m : Mkt) : (hasM m).length = m.bids.length := by unfold hasM; rw [firstOf_length, gainsM_length]
theorem MOk.ordN {m : Mkt} (h : MOk m) : m.ord = (ordN m).map (fun k : Nat => (k : Int)) ∧ (ordN m).Perm (List.range m.bids.length) := by
  obtain ⟨on, e, hp⟩ := h.order
  have : Go.Proofs.YtkddkkcfpnndlaaGreatDoor.ordN m = on := by
    unfold Go.Proofs.YtkddkkcfpnndlaaGreatDoor.ordN
    rw [e, List.map_map]
    conv => rhs; rw [← List.map_id on]
    exact List.map_congr_left fun x _ => by simp
  rw [this]
  exact ⟨e, hp⟩
theorem MOk.first {m : Mkt} (h : MOk m) : IsFirst (gi (gainsM m)) m.res.length (Go.Proofs.YtkddkkcfpnndlaaGreatDoor.ordN m) (slotOf (hasM m)) :=
  first_is (by rw [gainsM_length]; exact h.ordN.2)
theorem MOk.fits {m : Mkt} (h : MOk m) : Fits (gi (gainsM m)) m.res.length (List.range m.bids.length) (fun _ => true) (slotOf (hasM m)) := h.first.fits.perm h.ordN.2
theorem MOk.best {m : Mkt} (h : MOk m) : total (gi (gainsM m)) (slotOf (hasM m)) (List.range m.bids.length) = opt (gi (gainsM m)) m.res.length (List.range m.bids.length) (fun _ => true) := by
  rw [← opt_perm h.first.nodup h.ordN.2, ← h.first.best, total_perm h.ordN.2]
theorem hasM_ge (m : Mkt) : ∀ x, x ∈ hasM m → -1 ≤ x := firstOf_ge _ _ _
/-- an entry: none, or an item that is there -/
theorem MOk.item {m : Mkt} (h : MOk m) {i : Nat} {x : Int} (hx : (hasM m)[i]? = some x) (hne : x ≠ -1) : ∃ k : Nat, x = (k : Int) ∧ k < m.res.length ∧ slotOf (hasM m) i = some k ∧ 0 ≤ gi (gainsM m) i k := by
  have hi : i < m.bids.length := by rw [← hasM_length]; exact (List.getElem?_eq_some_iff.1 hx).1
  have h1 := hasM_ge m x (List.mem_of_getElem? hx)
  have hs : slotOf (hasM m) i = some x.toNat := by rw [slot_of hx, if_neg hne]
  have h2 := h.fits.some i (List.mem_range.2 hi) _ hs
  exact ⟨x.toNat, by omega, h2.1, hs, h2.2.2⟩

/-- a book's cells -/
def bookV (ra ba oa ga ha : Option Addr) (rn rc bn bc on oc gc hc : Nat) : List Value := [.slice ra rn rc, .slice ba bn bc, .slice oa on oc, .slice ga bn gc, .slice ha bn hc]
structure BookAt (w : World) (Bk : Nat) (ra ba oa ga ha : Option Addr) (rn rc bn bc on oc gc hc : Nat) (m : Mkt) : Prop where
  row : VRow w Bk 199 (bookV ra ba oa ga ha rn rc bn bc on oc gc hc)
  mkt : MktAt w ra ba oa rn rc bn bc on oc m
  gains : Rows w ga bn gc (gainsM m)
  has : Ints w ha bn hc (hasM m)
theorem Rows.step {w w' : World} {a : Option Addr} {n c : Nat} {xss : List (List Int)} (h : Rows w a n c xss) (hb : Below w.heap.size w w') : Rows w' a n c xss := h.below hb (Nat.le_refl _)
theorem BookAt.step {w w' : World} {Bk : Nat} {ra ba oa ga ha : Option Addr} {rn rc bn bc on oc gc hc : Nat} {m : Mkt} (h : BookAt w Bk ra ba oa ga ha rn rc bn bc on oc gc hc m) (hb : Below w.heap.size w w') : BookAt w' Bk ra ba oa ga ha rn rc bn bc on oc gc hc m :=
  ⟨h.row.step hb, h.mkt.below hb (Nat.le_refl _), h.gains.step hb, h.has.step hb⟩

end Go.Proofs.YtkddkkcfpnndlaaGreatDoor
