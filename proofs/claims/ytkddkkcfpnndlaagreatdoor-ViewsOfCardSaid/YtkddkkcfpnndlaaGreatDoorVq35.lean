/- Walks: a rise's state in memory; what a bidder has by an item. Walks: how far a set may rise: what its closures say. -/
import Derived.Test.YtkddkkcfpnndlaaGreatDoorVq16
import Derived.Test.YtkddkkcfpnndlaaGreatDoorVq34
import Derived.Test.YtkddkkcfpnndlaaGreatDoorVq30
import Derived.BigRegion
import Derived.Laws.EntriesVeiled
namespace Go.Proofs.YtkddkkcfpnndlaaGreatDoor
open Go.RowKit

/-- a rise's state: a market, prices, what is wanted, who must have -/
structure StAt (w : World) (S : Nat) (ra ba oa qa wa ua : Option Addr) (rn rc bn bc on oc qn qc un uc : Nat) (m : Mkt) (q : List Int) (wants : List (List Int)) (must : List Int) : Prop where
  c0 : w.cell? ⟨S, 0, none⟩ = some (.slice ra rn rc)
  c1 : w.cell? ⟨S, 1, none⟩ = some (.slice ba bn bc)
  c2 : w.cell? ⟨S, 2, none⟩ = some (.slice oa on oc)
  c3 : w.cell? ⟨S, 3, none⟩ = some (.slice qa qn qc)
  c4 : w.cell? ⟨S, 4, none⟩ = some (.slice wa bn bn)
  c5 : w.cell? ⟨S, 5, none⟩ = some (.slice ua un uc)
  mkt : MktAt w ra ba oa rn rc bn bc on oc m
  pr : Ints w qa qn qc q
  wants : Rows w wa bn bn wants
  must : Ints w ua un uc must
theorem StAt.below {w w' : World} {S : Nat} {ra ba oa qa wa ua : Option Addr} {rn rc bn bc on oc qn qc un uc : Nat} {m : Mkt} {q : List Int} {wants : List (List Int)} {must : List Int}
    (h : StAt w S ra ba oa qa wa ua rn rc bn bc on oc qn qc un uc m q wants must) {B : Nat} (hb : Below B w w') (hB : w.heap.size ≤ B) : StAt w' S ra ba oa qa wa ua rn rc bn bc on oc qn qc un uc m q wants must := by
  have hs := block_lt_of_cell h.c0
  have hc : ∀ k, w'.cell? ⟨S, k, none⟩ = w.cell? ⟨S, k, none⟩ := fun k => hb.cell (p := ⟨S, k, none⟩) (by simp at hs ⊢; omega)
  exact ⟨(hc _).trans h.c0, (hc _).trans h.c1, (hc _).trans h.c2, (hc _).trans h.c3, (hc _).trans h.c4, (hc _).trans h.c5, h.mkt.below hb hB, h.pr.below hb hB, h.wants.below hb hB, h.must.below hb hB⟩

set_option maxHeartbeats 1000000 in
theorem rhas_any {w : World} {S : Nat} {ra ba oa qa wa ua : Option Addr} {rn rc bn bc on oc qn qc un uc : Nat} {m : Mkt} {q : List Int} {wants : List (List Int)} {must : List Int}
    (h : StAt w S ra ba oa qa wa ua rn rc bn bc on oc qn qc un uc m q wants must) {i k : Nat} {bid : List Int} {x y : Int} (hb : m.bids[i]? = some bid) (hx : bid[k]? = some x) (hy : q[k]? = some y) (hx1 : 0 ≤ x ∧ x ≤ 1000000) (hy1 : 0 ≤ y ∧ y ≤ 2000000) :
    Calls Tryz.prog 220 #[.pointer (some ⟨S, 0, none⟩), .int .i64 i, .int .i64 k] w fun e w' => e = .returned (.int .i64 (x - y)) ∧ Below w.heap.size w w' := by
  have hib : i < m.bids.length := (List.getElem?_eq_some_iff.1 hb).1
  have hbl := h.mkt.bids.len
  obtain ⟨bb, bo, rfl⟩ := h.mkt.bids.addr (by omega)
  obtain ⟨la, ln, lc, hcl, hli⟩ := h.mkt.bids.row (Below.refl w.heap.size w) (Nat.le_refl _) rfl hb
  have hll := hli.len
  have hkl : k < bid.length := (List.getElem?_eq_some_iff.1 hx).1
  have hkq : k < q.length := (List.getElem?_eq_some_iff.1 hy).1
  have hql := h.pr.len
  obtain ⟨lb, lo, rfl⟩ := hli.addr (by omega)
  obtain ⟨qb, qo, rfl⟩ := h.pr.addr (by omega)
  have cx := hli.cell lb lo rfl k x hx
  have cy := h.pr.cell qb qo rfl k y hy
  have c1 := h.c1
  have c3 := h.c3
  have i1 : (i : Int) < (bn : Int) := by omega
  have i2 : (k : Int) < (ln : Int) := by omega
  have i3 : (k : Int) < (qn : Int) := by omega
  clear h hli hb hx hy hib hbl hll hkl hkq hql
  obtain ⟨x1, x2⟩ := hx1
  obtain ⟨y1, y2⟩ := hy1
  go_enter Tryz.func220, Tryz.ntmps220
  go_wp2_with fail
  go_region
  all_goals
    go_wp2_with fail
    go_ret
    exact ⟨rfl, (Below.refl _ _).drew⟩
end Go.Proofs.YtkddkkcfpnndlaaGreatDoor

namespace Go.Proofs.YtkddkkcfpnndlaaGreatDoor
open Go.RowKit

theorem farIn_any (B : Nat) (a : Option Addr) (n c : Nat) (l : List Nat) (x : Int) (w : World) (hB : w.cell? ⟨B, 0, none⟩ = some (.slice a n c)) (h : Ints w a n c (nats l)) :
    Calls Tryz.prog 218 #[.int .i64 x, .pointer (some ⟨B, 0, none⟩)] w fun e w' => e = .returned (.bool ((nats l).contains x)) ∧ Below w.heap.size w w' := by
  have H := Lib.hid (contains_any a n c (nats l) x w h); clear h
  go_enter Tryz.func218, Tryz.ntmps218
  go_wp2_with fail
  refine H.out.mono ?_
  rintro e w1 ⟨rfl, rfl⟩
  go_wp2_with fail
  go_ret
  exact ⟨(ret_bool (by simp) : Ending.returned (.bool (decide (x ∈ nats l))) = _), Below.refl _ _⟩
theorem farOut_any (B B2 : Nat) (a : Option Addr) (n c : Nat) (l : List Nat) (x : Int) (w : World) (hB : w.cell? ⟨B, 0, none⟩ = some (.slice a n c)) (h2 : w.cell? ⟨B2, 0, none⟩ = some (.func (.func 218) #[] #[.pointer (some ⟨B, 0, none⟩)])) (h : Ints w a n c (nats l)) :
    Calls Tryz.prog 219 #[.int .i64 x, .pointer (some ⟨B2, 0, none⟩)] w fun e w' => e = .returned (.bool (!(nats l).contains x)) ∧ Below w.heap.size w w' := by
  have H := Lib.hid (farIn_any B a n c l x w hB h); clear h hB
  have hen := enters_of Tryz.func218 (by kernel_rfl) rfl
  go_enter Tryz.func219, Tryz.ntmps219
  go_wp2_with fail
  refine H.out.mono ?_
  rintro e w1 ⟨rfl, hb⟩
  have HB := Lib.hid hb; clear hb
  go_wp2_with fail
  go_ret
  exact ⟨(ret_bool (by simp) : Ending.returned (.bool !decide (x ∈ nats l)) = _), HB.out⟩

/-! ### how far -/
def gnOf (bids : List (List Int)) (q : List Int) (i k : Nat) : Int := (bids.getD i []).getD k 0 - q.getD k 0
/-- what keeps one that wants nothing else: what it has, and what it has more than by others -/
def farRow (bids : List (List Int)) (q : List Int) (wants : List (List Nat)) (l : List Nat) (i : Nat) : List Int :=
  if ((wants.getD i []).any fun k => !l.contains k) then [] else
    gnOf bids q i ((wants.getD i []).getD 0 0) :: ((List.range q.length).filter fun k => !l.contains k).map fun k => gnOf bids q i ((wants.getD i []).getD 0 0) - gnOf bids q i k
def farAll (bids : List (List Int)) (q : List Int) (wants : List (List Nat)) (l mu : List Nat) : List Int := mu.flatMap (farRow bids q wants l)
/-- what far needs of a state -/
structure FarOk (m : Mkt) (q : List Int) (wants : List (List Nat)) (mu : List Nat) : Prop where
  q8 : q.length ≤ 8
  mu8 : mu.length ≤ 8
  lt : ∀ i, i ∈ mu → i < m.bids.length
  wl : wants.length = m.bids.length
  row : ∀ i, i ∈ mu → (m.bids.getD i []).length = q.length ∧ ∀ x, x ∈ m.bids.getD i [] → 0 ≤ x ∧ x ≤ 1000000
  pr : ∀ x, x ∈ q → 0 ≤ x ∧ x ≤ 2000000
  ne : ∀ i, i ∈ mu → wants.getD i [] ≠ []
  want : ∀ i, i ∈ mu → ∀ k, k ∈ wants.getD i [] → k < q.length
theorem FarOk.gn {m : Mkt} {q : List Int} {wants : List (List Nat)} {mu : List Nat} (h : FarOk m q wants mu) {i k : Nat} (hi : i ∈ mu) (hk : k < q.length) :
    ∃ bid x y, m.bids[i]? = some bid ∧ bid[k]? = some x ∧ q[k]? = some y ∧ (0 ≤ x ∧ x ≤ 1000000) ∧ (0 ≤ y ∧ y ≤ 2000000) ∧ gnOf m.bids q i k = x - y := by
  have h1 := h.lt i hi
  have hb : m.bids[i]? = some (m.bids[i]) := List.getElem?_eq_getElem h1
  have hg : m.bids.getD i [] = m.bids[i] := by rw [List.getD_eq_getElem?_getD, hb]; rfl
  obtain ⟨h2, h3⟩ := h.row i hi
  rw [hg] at h2 h3
  have hx : (m.bids[i])[k]? = some ((m.bids[i])[k]) := List.getElem?_eq_getElem (by omega)
  have hy : q[k]? = some (q[k]) := List.getElem?_eq_getElem hk
  refine ⟨_, _, _, hb, hx, hy, h3 _ (List.mem_of_getElem? hx), h.pr _ (List.mem_of_getElem? hy), ?_⟩
  unfold gnOf
  rw [hg, List.getD_eq_getElem?_getD, hx, List.getD_eq_getElem?_getD, hy]; rfl
theorem nats_any (L l : List Nat) : ((nats L).any fun x => !(nats l).contains x) = L.any fun k => !l.contains k := by
  rw [Bool.eq_iff_iff]
  simp only [List.any_eq_true, nats, List.mem_map, Bool.not_eq_true', List.contains_eq_mem, decide_eq_false_iff_not]
  constructor
  · rintro ⟨x, ⟨k, hk, rfl⟩, h⟩
    exact ⟨k, hk, fun hm => h ⟨k, hm, rfl⟩⟩
  · rintro ⟨k, hk, h⟩
    refine ⟨k, ⟨k, hk, rfl⟩, ?_⟩
    rintro ⟨k', hk', e⟩
    have e2 : k' = k := by omega
    rw [e2] at hk'
    exact h hk'
theorem farRow_len (bids : List (List Int)) (q : List Int) (wants : List (List Nat)) (l : List Nat) (i : Nat) : (farRow bids q wants l i).length ≤ q.length + 1 := by
  unfold farRow
  split
  · simp
  · have := List.length_filter_le (fun k => !l.contains k) (List.range q.length)
    simp at this ⊢
    omega
theorem farAll_len (bids : List (List Int)) (q : List Int) (wants : List (List Nat)) (l mu : List Nat) : (farAll bids q wants l mu).length ≤ mu.length * (q.length + 1) := by
  unfold farAll
  induction mu with
  | nil => simp
  | cons i mu ih =>
    have := farRow_len bids q wants l i
    rw [List.flatMap_cons, List.length_append, List.length_cons, Nat.add_mul]
    omega
end Go.Proofs.YtkddkkcfpnndlaaGreatDoor
