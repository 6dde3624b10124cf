/- Between what First answers and the plain mathematics: a list of who has what as a function; the first of the best. What First answers: refused, or the first of the best. A market in plain words: what each gains, and without one. -/
import Derived.Test.YtkddkkcfpnndlaaGreatDoorVq11
import Derived.Test.YtkddkkcfpnndlaaGreatDoorVq06
import Derived.Test.YtkddkkcfpnndlaaGreatDoorVq12
import Derived.Test.YtkddkkcfpnndlaaGreatDoorVq04
namespace Go.Proofs.YtkddkkcfpnndlaaGreatDoor
open Go.RowKit Sale

def slotOf (has : List Int) (i : Nat) : Option Nat := match has[i]? with
  | some h => if h = -1 then none else some h.toNat
  | none => none

theorem slot_of {has : List Int} {i : Nat} {x : Int} (h : has[i]? = some x) : slotOf has i = if x = -1 then none else some x.toNat := by simp [slotOf, h]

theorem lookup_at {ls : List Nat} {ms : List (Option Nat)} (hn : ls.Nodup) : ∀ {d l : Nat} {o : Option Nat}, ls[d]? = some l → ms[d]? = some o → (ls.zip ms).lookup l = some o := by
  induction ls generalizing ms with
  | nil => intro d l o h; simp at h
  | cons a ls ih =>
    intro d l o h1 h2
    obtain ⟨ha, hn⟩ := List.nodup_cons.1 hn
    cases ms with
    | nil => simp at h2
    | cons b ms =>
      cases d with
      | zero => simp at h1 h2; subst h1; subst h2; simp
      | succ d =>
        simp at h1 h2
        have : l ≠ a := fun e => ha (e ▸ List.mem_of_getElem? h1)
        rw [List.zip_cons_cons, List.lookup_cons, show (l == a) = false by simp [this]]
        exact ih hn h1 h2

theorem firstOf_length (gains : List (List Int)) (n : Nat) (on : List Nat) : (firstOf gains n on).length = gains.length := tabN_length _ _

theorem firstOf_ge (gains : List (List Int)) (n : Nat) (on : List Nat) : ∀ x, x ∈ firstOf gains n on → -1 ≤ x := by
  intro x hx
  obtain ⟨j, hj⟩ := List.mem_iff_getElem?.1 hx
  have hjl : j < gains.length := by have := (List.getElem?_eq_some_iff.1 hj).1; rwa [firstOf_length] at this
  rw [firstOf, tabN_get _ hjl] at hj
  cases hj
  unfold hasF
  split
  · rename_i o _
    cases o with
    | none => simp [itemOf]
    | some r => simp [itemOf]
  · omega

theorem first_is {gains : List (List Int)} {n : Nat} {on : List Nat} (hp : on.Perm (List.range gains.length)) : IsFirst (gi gains) n on (slotOf (firstOf gains n on)) := by
  have hn : on.Nodup := hp.nodup_iff.2 List.nodup_range
  refine ⟨?_, hn⟩
  have hlen := firsts_length (gi gains) n on (fun _ => true)
  apply List.ext_getElem?
  intro d
  by_cases hd : d < on.length
  · have hl : on[d]? = some (on[d]) := by simp
    have hf : (firsts (gi gains) n on (fun _ => true))[d]? = some ((firsts (gi gains) n on (fun _ => true))[d]'(by omega)) := by simp
    have hlt : on[d] < gains.length := List.mem_range.1 (hp.mem_iff.1 (List.getElem_mem _))
    rw [List.getElem?_map, hl, Option.map_some, hf]
    congr 1
    have hx : (firstOf gains n on)[on[d]]? = some (itemOf ((firsts (gi gains) n on (fun _ => true))[d]'(by omega))) := by
      rw [firstOf, tabN_get _ hlt, hasF, lookup_at hn hl hf]
    rw [slot_of hx]
    cases (firsts (gi gains) n on (fun _ => true))[d]'(by omega) with
    | none => simp [itemOf]
    | some r =>
      have : ((r : Int) = -1) = False := by simp
      simp [itemOf, this]
  · rw [List.getElem?_eq_none (by simp; omega), List.getElem?_eq_none (by omega)]

theorem wcheck_of {gains : List (List Int)} {n : Nat} (h1 : 1 ≤ n) (h2 : n ≤ 8) (h3 : gains.length ≤ 8) (h4 : ∀ l, l ∈ gains → (l.length : Int) = n) (h5 : ∀ l, l ∈ gains → ∀ x, x ∈ l → -1000000 ≤ x ∧ x ≤ 1000000) : wcheck gains n = true := by
  simp only [wcheck, Bool.and_eq_true, decide_eq_true_eq, Bool.not_eq_true', List.any_eq_false, badGains, badGain, Bool.or_eq_true, decide_eq_false_iff_not, List.any_eq_true, not_or]
  refine ⟨⟨⟨by omega, by omega⟩, h3⟩, fun l hl => ⟨by simp [h4 l hl], fun ⟨x, hx, hh⟩ => ?_⟩⟩
  have := h5 l hl x hx
  omega
end Go.Proofs.YtkddkkcfpnndlaaGreatDoor

namespace Go.Proofs.YtkddkkcfpnndlaaGreatDoor
open Go.RowKit Sale

theorem order_nat {order : List Int} {m : Nat} (h : isOrd order m = true) : ∃ on : List Nat, order = on.map fun k : Nat => (k : Int) := by
  refine ⟨order.map Int.toNat, ?_⟩
  rw [List.map_map]
  have hp : order.Perm (upTo m) := List.isPerm_iff.1 h
  have : ∀ x, x ∈ order → 0 ≤ x := by
    intro x hx
    have := hp.mem_iff.1 hx
    unfold upTo at this
    obtain ⟨j, _, rfl⟩ := List.mem_map.1 this
    omega
  conv => lhs; rw [← List.map_id order]
  refine List.map_congr_left fun x hx => ?_
  have := this x hx
  simp; omega

end Go.Proofs.YtkddkkcfpnndlaaGreatDoor

namespace Go.Proofs.YtkddkkcfpnndlaaGreatDoor
open Go.RowKit Sale

/-- what a bidder gains by each item -/
def gainRow (res bid : List Int) : List Int := (List.range res.length).map fun k => if bid = [] then -1 else bid.getD k 0 - res.getD k 0
def gainsM (m : Mkt) : List (List Int) := m.bids.map (gainRow m.res)
theorem gainRow_length (res bid : List Int) : (gainRow res bid).length = res.length := by simp [gainRow]
theorem gainsM_length (m : Mkt) : (gainsM m).length = m.bids.length := by simp [gainsM]
theorem gainRow_get {res bid : List Int} {k : Nat} (hk : k < res.length) : (gainRow res bid)[k]? = some (if bid = [] then -1 else bid.getD k 0 - res.getD k 0) := by simp [gainRow, hk]

/-- what may be is as it must be -/
structure MOk (m : Mkt) : Prop where
  n1 : 1 ≤ m.res.length
  n8 : m.res.length ≤ 8
  m1 : 1 ≤ m.bids.length
  m8 : m.bids.length ≤ 8
  res : ∀ x, x ∈ m.res → 0 ≤ x ∧ x ≤ 1000000
  bid : ∀ b, b ∈ m.bids → b = [] ∨ (b.length = m.res.length ∧ ∀ x, x ∈ b → 0 ≤ x ∧ x ≤ 1000000)
  ord : isOrd m.ord m.bids.length = true

theorem vcheck_parts {xs : List Int} {n : Int} (h : vcheck xs n = true) : 1 ≤ n ∧ n ≤ 8 ∧ (xs.length : Int) = n ∧ ∀ x, x ∈ xs → 0 ≤ x ∧ x ≤ 1000000 := by
  simp only [vcheck, Bool.and_eq_true, decide_eq_true_eq, within, List.all_eq_true] at h
  exact ⟨h.1.1.1, h.1.1.2, h.1.2, h.2⟩
theorem count_one {l : List Int} (hn : l.Nodup) {x : Int} (h : x ∈ l) : l.count x = 1 := by
  have h1 := List.nodup_iff_count.1 hn x
  have h2 := List.count_pos_iff.2 h
  omega
theorem orderOk_iff {l : List Int} {m : Nat} (hm : m ≤ 8) : orderOk l m = true ↔ isOrd l m = true := by
  unfold isOrd
  rw [List.isPerm_iff]
  constructor
  · intro h
    simp only [orderOk, Bool.and_eq_true, List.all_eq_true, decide_eq_true_eq, beq_iff_eq] at h
    obtain ⟨h1, h2⟩ := h
    rw [List.perm_iff_count]
    intro x
    have hup : ∀ y : Int, (upTo m).count y = if 0 ≤ y ∧ y < m then 1 else 0 := fun y => by
      have hn : (upTo m).Nodup := by
        unfold upTo
        rw [List.nodup_iff_pairwise_ne, List.pairwise_map]
        exact (List.nodup_range (n := m)).imp fun h e => h (by omega)
      split
      · rename_i hy
        exact count_one hn (by unfold upTo; exact List.mem_map.2 ⟨y.toNat, List.mem_range.2 (by omega), by omega⟩)
      · rename_i hy
        refine List.count_eq_zero_of_not_mem fun hc => hy ?_
        unfold upTo at hc
        obtain ⟨j, hj, rfl⟩ := List.mem_map.1 hc
        have := List.mem_range.1 hj
        omega
    rw [hup]
    by_cases hx : 0 ≤ x ∧ x < m
    · rw [if_pos hx]
      obtain ⟨k, rfl⟩ : ∃ k : Nat, x = k := ⟨x.toNat, by omega⟩
      have hk8 : k < 8 := by omega
      have e1 := timesOf_get l hk8
      rw [h2, onceTo_get hk8, if_pos (by omega)] at e1
      have := Option.some.inj e1
      omega
    · rw [if_neg hx]
      exact List.count_eq_zero_of_not_mem fun hc => hx (h1 x hc)
  · intro h
    simp only [orderOk, Bool.and_eq_true, List.all_eq_true, decide_eq_true_eq, beq_iff_eq]
    refine ⟨fun x hx => ?_, ?_⟩
    · have := h.mem_iff.1 hx
      unfold upTo at this
      obtain ⟨j, hj, rfl⟩ := List.mem_map.1 this
      have := List.mem_range.1 hj
      omega
    · unfold timesOf onceTo
      refine List.map_congr_left fun j hj => ?_
      rw [h.count_eq]
      have hn : (upTo m).Nodup := by
        unfold upTo
        rw [List.nodup_iff_pairwise_ne, List.pairwise_map]
        exact (List.nodup_range (n := m)).imp fun h e => h (by omega)
      split
      · rename_i hjm
        rw [count_one hn (by unfold upTo; exact List.mem_map.2 ⟨j, List.mem_range.2 hjm, rfl⟩)]; rfl
      · rename_i hjm
        rw [List.count_eq_zero_of_not_mem (fun hc => ?_)]; rfl
        unfold upTo at hc
        obtain ⟨i, hi, e⟩ := List.mem_map.1 hc
        have := List.mem_range.1 hi
        omega

theorem mcheck_ok {m : Mkt} (h : mcheck m = true) : MOk m := by
  simp only [mcheck, Bool.and_eq_true, decide_eq_true_eq, Bool.not_eq_true', List.any_eq_false] at h
  obtain ⟨⟨⟨⟨h1, h2⟩, h3⟩, h4⟩, h5⟩ := h
  obtain ⟨v1, v2, _, v4⟩ := vcheck_parts h1
  refine ⟨by omega, by omega, h2, h3, v4, fun b hb => ?_, (orderOk_iff h3).1 h4⟩
  have := h5 b hb
  unfold badBid at this
  by_cases e : b = []
  · exact .inl e
  · right
    have he : b.isEmpty = false := by cases b <;> simp_all
    rw [he] at this
    simp only [Bool.not_false, Bool.true_and, Bool.not_eq_true', Bool.not_eq_false] at this
    obtain ⟨_, _, w3, w4⟩ := vcheck_parts this
    exact ⟨by omega, w4⟩
/-- the gains of a market, as functions of bidder and item -/
theorem gi_bid {m : Mkt} {i k : Nat} (hi : i < m.bids.length) (hk : k < m.res.length) : gi (gainsM m) i k = if m.bids[i] = [] then -1 else m.bids[i].getD k 0 - m.res.getD k 0 :=
  gi_at (l := gainRow m.res m.bids[i]) (by simp [gainsM, hi]) (gainRow_get hk)

theorem MOk.rows {m : Mkt} (h : MOk m) : (∀ l, l ∈ gainsM m → (l.length : Int) = m.res.length) ∧ ∀ l, l ∈ gainsM m → ∀ x, x ∈ l → -1000000 ≤ x ∧ x ≤ 1000000 := by
  constructor
  · intro l hl
    obtain ⟨b, _, rfl⟩ := List.mem_map.1 hl
    rw [gainRow_length]
  · intro l hl x hx
    obtain ⟨b, hb, rfl⟩ := List.mem_map.1 hl
    obtain ⟨k, hk, rfl⟩ := List.mem_map.1 hx
    have hkn := List.mem_range.1 hk
    split
    · omega
    · rename_i hne
      rcases h.bid b hb with e | ⟨h1, h2⟩
      · exact absurd e hne
      · have e1 := h2 b[k] (List.getElem_mem (by omega))
        have e2 := h.res m.res[k] (List.getElem_mem hkn)
        rw [List.getD_eq_getElem?_getD, List.getD_eq_getElem?_getD, List.getElem?_eq_getElem (by omega), List.getElem?_eq_getElem hkn, Option.getD_some, Option.getD_some]
        omega

theorem MOk.wcheck {m : Mkt} (h : MOk m) : wcheck (gainsM m) m.res.length = true :=
  wcheck_of h.n1 h.n8 (by rw [gainsM_length]; exact h.m8) h.rows.1 h.rows.2
theorem MOk.order {m : Mkt} (h : MOk m) : ∃ on : List Nat, m.ord = on.map (fun k : Nat => (k : Int)) ∧ on.Perm (List.range m.bids.length) := by
  obtain ⟨on, e⟩ := order_nat h.ord
  refine ⟨on, e, ?_⟩
  have := h.ord
  rw [e] at this
  exact isOrd_parts this
theorem MOk.bd {m : Mkt} (h : MOk m) (i k : Nat) : -1000000 ≤ gi (gainsM m) i k ∧ gi (gainsM m) i k ≤ 1000000 := by
  unfold gi
  cases hl : (gainsM m)[i]? with
  | none => simp
  | some l =>
    cases hx : l[k]? with
    | none => simp [hx]
    | some x =>
      simp only [Option.getD_some, hx]
      exact h.rows.2 l (List.mem_of_getElem? hl) x (List.mem_of_getElem? hx)

/-- without a bidder's bid -/
def withoutM (m : Mkt) (i : Nat) : Mkt := { m with bids := m.bids.set i [] }
theorem withoutM_length (m : Mkt) (i : Nat) : (withoutM m i).bids.length = m.bids.length := by simp [withoutM]
theorem MOk.without {m : Mkt} (h : MOk m) (i : Nat) : MOk (withoutM m i) := by
  refine ⟨h.n1, h.n8, by rw [withoutM_length]; exact h.m1, by rw [withoutM_length]; exact h.m8, h.res, fun b hb => ?_, by rw [withoutM_length]; exact h.ord⟩
  rcases List.mem_or_eq_of_mem_set hb with hb | e
  · exact h.bid b hb
  · exact .inl e
end Go.Proofs.YtkddkkcfpnndlaaGreatDoor
