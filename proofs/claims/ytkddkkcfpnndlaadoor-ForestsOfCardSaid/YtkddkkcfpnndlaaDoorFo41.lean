/- Walks: markets.Without. Walks: payments: the book of a market, and what all have but one. -/
import Derived.Test.YtkddkkcfpnndlaaDoorFo16
import Derived.Test.YtkddkkcfpnndlaaDoorFo30
import Derived.Test.YtkddkkcfpnndlaaDoorFo19
import Derived.Test.YtkddkkcfpnndlaaDoorFo08
import Derived.Deep.RegionHeld3
import Derived.Deep.DeepCutAuto
namespace Go.Proofs.YtkddkkcfpnndlaaDoor
open Go.RowKit

theorem Below.step {B : Nat} {w w1 w2 : World} (hb : Below w1.heap.size w1 w2) (h : Below B w w1) (hB : B ≤ w1.heap.size) : Below B w w2 := h.trans (hb.mono hB)
theorem VRow.step {w w' : World} {B : Nat} {T : TypeId} {vals : List Value} (h : VRow w B T vals) (hb : Below w.heap.size w w') : VRow w' B T vals := h.below hb h.lt

theorem below_on {w w1 w2 : World} (hb : Below w1.heap.size w1 w2) (h : Below w.heap.size w w1) : Below w.heap.size w w2 := h.trans (hb.mono h.size)
theorem cell_up {w w' : World} {b o : Nat} {v : Value} (hb : Below w.heap.size w w') (h : w.cell? ⟨b, o, none⟩ = some v) : w'.cell? ⟨b, o, none⟩ = some v := cell_step hb h
end Go.Proofs.YtkddkkcfpnndlaaDoor

namespace Go.Proofs.YtkddkkcfpnndlaaDoor
open Go.RowKit Sale

/-- the order as numbers of no sign; who has what -/
def ordN (m : Mkt) : List Nat := m.ord.map Int.toNat
def hasM (m : Mkt) : List Int := firstOf (gainsM m) m.res.length (ordN m)
theorem hasM_length (m : Mkt) : (hasM m).length = m.bids.length := by unfold hasM; rw [firstOf_length, gainsM_length]
theorem MOk.ordN {m : Mkt} (h : MOk m) : m.ord = (ordN m).map (fun k : Nat => (k : Int)) ∧ (ordN m).Perm (List.range m.bids.length) := by
  obtain ⟨on, e, hp⟩ := h.order
  have : Go.Proofs.YtkddkkcfpnndlaaDoor.ordN m = on := by
    unfold Go.Proofs.YtkddkkcfpnndlaaDoor.ordN
    rw [e, List.map_map]
    conv => rhs; rw [← List.map_id on]
    exact List.map_congr_left fun x _ => by simp
  rw [this]
  exact ⟨e, hp⟩
theorem MOk.first {m : Mkt} (h : MOk m) : IsFirst (gi (gainsM m)) m.res.length (Go.Proofs.YtkddkkcfpnndlaaDoor.ordN m) (slotOf (hasM m)) :=
  first_is (by rw [gainsM_length]; exact h.ordN.2)
theorem MOk.fits {m : Mkt} (h : MOk m) : Fits (gi (gainsM m)) m.res.length (List.range m.bids.length) (fun _ => true) (slotOf (hasM m)) := h.first.fits.perm h.ordN.2
theorem MOk.best {m : Mkt} (h : MOk m) : total (gi (gainsM m)) (slotOf (hasM m)) (List.range m.bids.length) = opt (gi (gainsM m)) m.res.length (List.range m.bids.length) (fun _ => true) := by
  rw [← opt_perm h.first.nodup h.ordN.2, ← h.first.best, total_perm h.ordN.2]
theorem hasM_ge (m : Mkt) : ∀ x, x ∈ hasM m → -1 ≤ x := firstOf_ge _ _ _
/-- an entry: none, or an item that is there -/
theorem MOk.item {m : Mkt} (h : MOk m) {i : Nat} {x : Int} (hx : (hasM m)[i]? = some x) (hne : x ≠ -1) : ∃ k : Nat, x = (k : Int) ∧ k < m.res.length ∧ slotOf (hasM m) i = some k ∧ 0 ≤ gi (gainsM m) i k := by
  have hi : i < m.bids.length := by rw [← hasM_length]; exact (List.getElem?_eq_some_iff.1 hx).1
  have h1 := hasM_ge m x (List.mem_of_getElem? hx)
  have hs : slotOf (hasM m) i = some x.toNat := by rw [slot_of hx, if_neg hne]
  have h2 := h.fits.some i (List.mem_range.2 hi) _ hs
  exact ⟨x.toNat, by omega, h2.1, hs, h2.2.2⟩

theorem Rows.step {w w' : World} {a : Option Addr} {n c : Nat} {xss : List (List Int)} (h : Rows w a n c xss) (hb : Below w.heap.size w w') : Rows w' a n c xss := h.below hb (Nat.le_refl _)
end Go.Proofs.YtkddkkcfpnndlaaDoor
