/- A market in plain words: what each gains, and without one. -/
import Derived.Test.YtkddkkcfpnndlaaGreatDoorPg26
import Derived.Test.YtkddkkcfpnndlaaGreatDoorPg15
import Derived.Test.YtkddkkcfpnndlaaGreatDoorPg18
import Derived.Test.YtkddkkcfpnndlaaGreatDoorPg09
namespace Go.Proofs.YtkddkkcfpnndlaaGreatDoor
open Go.RowKit Sale

/-- what a bidder gains by each item -/
def gainRow (res bid : List Int) : List Int := (List.range res.length).map fun k => if bid = [] then -1 else bid.getD k 0 - res.getD k 0
def gainsM (m : Mkt) : List (List Int) := m.bids.map (gainRow m.res)
theorem gainRow_length (res bid : List Int) : (gainRow res bid).length = res.length := by simp [gainRow]
theorem gainsM_length (m : Mkt) : (gainsM m).length = m.bids.length := by simp [gainsM]
theorem gainRow_get {res bid : List Int} {k : Nat} (hk : k < res.length) : (gainRow res bid)[k]? = some (if bid = [] then -1 else bid.getD k 0 - res.getD k 0) := by simp [gainRow, hk]

/-- what may be is as it must be -/
structure MOk (m : Mkt) : Prop where
  n1 : 1 ≤ m.res.length
  n8 : m.res.length ≤ 8
  m1 : 1 ≤ m.bids.length
  m8 : m.bids.length ≤ 8
  res : ∀ x, x ∈ m.res → 0 ≤ x ∧ x ≤ 1000000
  bid : ∀ b, b ∈ m.bids → b = [] ∨ (b.length = m.res.length ∧ ∀ x, x ∈ b → 0 ≤ x ∧ x ≤ 1000000)
  ord : isOrd m.ord m.bids.length = true

/-- the gains of a market, as functions of bidder and item -/
theorem gi_bid {m : Mkt} {i k : Nat} (hi : i < m.bids.length) (hk : k < m.res.length) : gi (gainsM m) i k = if m.bids[i] = [] then -1 else m.bids[i].getD k 0 - m.res.getD k 0 :=
  gi_at (l := gainRow m.res m.bids[i]) (by simp [gainsM, hi]) (gainRow_get hk)

theorem MOk.rows {m : Mkt} (h : MOk m) : (∀ l, l ∈ gainsM m → (l.length : Int) = m.res.length) ∧ ∀ l, l ∈ gainsM m → ∀ x, x ∈ l → -1000000 ≤ x ∧ x ≤ 1000000 := by
  constructor
  · intro l hl
    obtain ⟨b, _, rfl⟩ := List.mem_map.1 hl
    rw [gainRow_length]
  · intro l hl x hx
    obtain ⟨b, hb, rfl⟩ := List.mem_map.1 hl
    obtain ⟨k, hk, rfl⟩ := List.mem_map.1 hx
    have hkn := List.mem_range.1 hk
    split
    · omega
    · rename_i hne
      rcases h.bid b hb with e | ⟨h1, h2⟩
      · exact absurd e hne
      · have e1 := h2 b[k] (List.getElem_mem (by omega))
        have e2 := h.res m.res[k] (List.getElem_mem hkn)
        rw [List.getD_eq_getElem?_getD, List.getD_eq_getElem?_getD, List.getElem?_eq_getElem (by omega), List.getElem?_eq_getElem hkn, Option.getD_some, Option.getD_some]
        omega

theorem MOk.order {m : Mkt} (h : MOk m) : ∃ on : List Nat, m.ord = on.map (fun k : Nat => (k : Int)) ∧ on.Perm (List.range m.bids.length) := by
  obtain ⟨on, e⟩ := order_nat h.ord
  refine ⟨on, e, ?_⟩
  have := h.ord
  rw [e] at this
  exact isOrd_parts this
theorem MOk.bd {m : Mkt} (h : MOk m) (i k : Nat) : -1000000 ≤ gi (gainsM m) i k ∧ gi (gainsM m) i k ≤ 1000000 := by
  unfold gi
  cases hl : (gainsM m)[i]? with
  | none => simp
  | some l =>
    cases hx : l[k]? with
    | none => simp [hx]
    | some x =>
      simp only [Option.getD_some, hx]
      exact h.rows.2 l (List.mem_of_getElem? hl) x (List.mem_of_getElem? hx)

/-- without a bidder's bid -/
def withoutM (m : Mkt) (i : Nat) : Mkt := { m with bids := m.bids.set i [] }
theorem withoutM_length (m : Mkt) (i : Nat) : (withoutM m i).bids.length = m.bids.length := by simp [withoutM]
theorem MOk.without {m : Mkt} (h : MOk m) (i : Nat) : MOk (withoutM m i) := by
  refine ⟨h.n1, h.n8, by rw [withoutM_length]; exact h.m1, by rw [withoutM_length]; exact h.m8, h.res, fun b hb => ?_, by rw [withoutM_length]; exact h.ord⟩
  rcases List.mem_or_eq_of_mem_set hb with hb | e
  · exact h.bid b hb
  · exact .inl e
end Go.Proofs.YtkddkkcfpnndlaaGreatDoor
