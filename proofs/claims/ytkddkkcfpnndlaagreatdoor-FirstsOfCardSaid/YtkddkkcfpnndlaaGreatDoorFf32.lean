/- Walks: a search goes. Walks: paths.More. -/
import Derived.Test.YtkddkkcfpnndlaaGreatDoorFf10
import Derived.Test.YtkddkkcfpnndlaaGreatDoorFf06
import Derived.Deep.RegionLaw
import Derived.ScopeJumps
namespace Go.Proofs.YtkddkkcfpnndlaaGreatDoor
open Go.RowKit

theorem Own.apart {w : World} {base : Nat} {v : Value} {xs : List Int} (h : Own w base v xs) {a : Addr} (ha : v.ownBlock ≠ some a.block) (u : Value) : Own (w.setCell a u) base v xs := by
  obtain ⟨h1, h2⟩ := h
  refine ⟨h1, ?_⟩
  rcases h2 with h2 | ⟨g, cap, cur, hv, hg, hh, r⟩
  · exact .inl h2
  · subst hv
    exact .inr ⟨g, cap, cur, rfl, hg, by rw [heap_setCell_other w a g u (fun e => ha (by rw [← e]; rfl))]; exact hh, r⟩
theorem VRow.grown {w w' : World} {B : Nat} {T : TypeId} {vals : List Value} {row : Option Nat} (h : VRow w B T vals) (hg : w.grownBy w' row) (hne : row ≠ some B) : VRow w' B T vals := by
  unfold VRow; rw [hg.block B h.lt (fun e => hne e.symm)]; exact h

/-- what each may have -/
def nbOf (G : List (List Nat)) (i : Nat) : List Nat := G[i]?.getD []
end Go.Proofs.YtkddkkcfpnndlaaGreatDoor

namespace Go.Proofs.YtkddkkcfpnndlaaGreatDoor
open Go.RowKit

theorem mem_nats {L : List Nat} {k : Nat} : (k : Int) ∈ nats L ↔ k ∈ L := by
  unfold nats
  rw [List.mem_map]
  constructor
  · rintro ⟨a, ha, e⟩
    obtain rfl : a = k := by omega
    exact ha
  · exact fun h => ⟨k, h, rfl⟩

theorem nbOf_map {G : List (List Nat)} {i : Nat} : (G.map nats)[i]?.getD [] = nats (nbOf G i) := by
  unfold nbOf
  rw [List.getElem?_map]
  cases G[i]? <;> rfl

theorem hasAt_some {has : List Int} {i k : Nat} (h : hasAt has i = some k) : ∃ x, has[i]? = some x ∧ x ≠ -1 ∧ x.toNat = k := by
  unfold hasAt at h
  cases hx : has[i]? with
  | none => rw [hx] at h; cases h
  | some x =>
    rw [hx] at h
    simp only at h
    split at h
    · cases h
    · rename_i hne; exact ⟨x, rfl, hne, by simpa using h⟩

/-- what fits is a matching -/
theorem fits_mat {G : List (List Nat)} {items : Int} {has : List Int} (h : fitsB (G.map nats) items has = true) : Way.Mat (nbOf G) has.length (hasAt has) := by
  refine ⟨fun w k e => ?_, fun w w' k e e' => ?_, fun w k e => ?_⟩
  · obtain ⟨x, hx, _⟩ := hasAt_some e
    exact (List.getElem?_eq_some_iff.1 hx).1
  · obtain ⟨x, hx, hne, ex⟩ := hasAt_some e
    obtain ⟨x', hx', hne', ex'⟩ := hasAt_some e'
    have b1 := fits_item h hx hne
    have b2 := fits_item h hx' hne'
    obtain rfl : x = x' := by omega
    have h3 := (fitsB_parts h).2.2
    rcases Nat.lt_trichotomy w w' with hlt | rfl | hlt
    · have := (okFit_at h3 (List.getElem?_eq_some_iff.1 hx').1 hx' hne).2
      exact absurd (List.mem_iff_getElem?.2 ⟨w, by rw [List.getElem?_take_of_lt hlt, hx]⟩) this
    · rfl
    · have := (okFit_at h3 (List.getElem?_eq_some_iff.1 hx).1 hx hne).2
      exact absurd (List.mem_iff_getElem?.2 ⟨w', by rw [List.getElem?_take_of_lt hlt, hx']⟩) this
  · obtain ⟨x, hx, hne, ex⟩ := hasAt_some e
    have b1 := fits_item h hx hne
    have hm := b1.2.2.2
    rw [nbOf_map] at hm
    obtain ⟨y, rfl⟩ := Int.eq_ofNat_of_zero_le b1.1
    rw [mem_nats] at hm
    simpa [← ex] using hm

theorem MyRow.drew {w : World} {base : Nat} {a : Option Addr} {n c : Nat} {xs : List Int} (h : MyRow w base a n c xs) : MyRow w.drew base a n c xs := ⟨h.len, h.cap, h.nil, h.own⟩
theorem VRow.other {w : World} {B : Nat} {T : TypeId} {vals : List Value} (h : VRow w B T vals) {a : Addr} (ha : B ≠ a.block) (v : Value) : VRow (w.setCell a v) B T vals := by
  unfold VRow; rw [heap_setCell_other w a B v ha]; exact h

theorem MyRow.keep {w w' : World} {base B : Nat} {a : Option Addr} {n c : Nat} {xs : List Int} (h : MyRow w base a n c xs) (hb : Below B w w') (hlt : 0 < n → ∀ b o, a = some ⟨b, o, none⟩ → b < B) : MyRow w' base a n c xs :=
  ⟨h.len, h.cap, h.nil, fun hn => by
    obtain ⟨g, cur, e, hg, hh, r⟩ := h.own hn
    exact ⟨g, cur, e, hg, by rw [hb.block g (hlt hn g 0 e)]; exact hh, r⟩⟩

end Go.Proofs.YtkddkkcfpnndlaaGreatDoor
