/- What one would have at prices, in the words of the plain texts. Walks: a rise's state in memory; what a bidder has by an item. Walks: how far a set may rise: what its closures say. Is an outcome even: as a word of the code, and in the words of the plain texts. Prices that rise, as the code reckons them, and in the words of the plain texts. -/
import Derived.Test.YtkddkkcfpnndlaaGreatDoorPq26
import Derived.Test.YtkddkkcfpnndlaaGreatDoorPq05
import Derived.Test.YtkddkkcfpnndlaaGreatDoorPq19
import Derived.Test.YtkddkkcfpnndlaaGreatDoorPq11
import Derived.Test.YtkddkkcfpnndlaaGreatDoorPq08
import Derived.Test.YtkddkkcfpnndlaaGreatDoorPq23
import Derived.Test.YtkddkkcfpnndlaaGreatDoorPq21
import Derived.Test.YtkddkkcfpnndlaaGreatDoorPq20
import Derived.Test.YtkddkkcfpnndlaaGreatDoorPq22
import Derived.Test.YtkddkkcfpnndlaaGreatDoorPq27
import Derived.BigRegion
import Derived.Deep.MidRow
import Derived.Laws.EntriesVeiled
namespace Go.Proofs.YtkddkkcfpnndlaaGreatDoor
open Go.RowKit Sale

def demS (f : Nat → Int) (s : List Nat × Int) (k : Nat) : List Nat × Int := if s.2 < f k then ([k], f k) else if f k = s.2 then (s.1 ++ [k], s.2) else s
theorem demS_max (f : Nat → Int) (n : Nat) : ((List.range n).foldl (demS f) ([], 0)).2 = foldMax (fun _ => true) f 0 (List.range n) := by
  induction n with
  | zero => rfl
  | succ n ih =>
    rw [List.range_succ, List.foldl_append, foldMax_snoc, if_pos rfl, ← ih]
    simp only [List.foldl_cons, List.foldl_nil]
    unfold demS
    split
    · simp only; omega
    · split
      · simp only; omega
      · omega
theorem demS_list (f : Nat → Int) (n : Nat) : ((List.range n).foldl (demS f) ([], 0)).1 = (List.range n).filter fun k => decide (f k = ((List.range n).foldl (demS f) ([], 0)).2) := by
  induction n with
  | zero => rfl
  | succ n ih =>
    have hle : ∀ k, k < n → f k ≤ ((List.range n).foldl (demS f) ([], 0)).2 := fun k hk => by
      rw [demS_max]; exact foldMax_ge (fun _ => true) f _ _ k (List.mem_range.2 hk) rfl
    rw [List.range_succ, List.foldl_append, List.filter_append]
    simp only [List.foldl_cons, List.foldl_nil]
    generalize (List.range n).foldl (demS f) ([], 0) = s at ih hle ⊢
    by_cases h1 : s.2 < f n
    · have e : demS f s n = ([n], f n) := by unfold demS; rw [if_pos h1]
      simp only [e]
      rw [List.filter_eq_nil_iff.2 (fun k hk => by have := hle k (List.mem_range.1 hk); simp; omega)]
      simp
    · by_cases h2 : f n = s.2
      · have e : demS f s n = (s.1 ++ [n], s.2) := by unfold demS; rw [if_neg h1, if_pos h2]
        simp only [e]
        rw [← ih]
        simp [h2]
      · have e : demS f s n = s := by unfold demS; rw [if_neg h1, if_neg h2]
        simp only [e]
        rw [← ih]
        simp [h2]
theorem demOf_fold (bid prices : List Int) : demOf bid prices = (List.range bid.length).foldl (demS fun k => bid.getD k 0 - prices.getD k 0) ([], 0) := by
  unfold demOf dState gainsTo
  rw [List.foldl_map]
  rfl
/-- what one has by each item, above the reserves, as a function -/
theorem demOf_is {bid prices : List Int} {g : Nat → Nat → Int} {N i : Nat} {q : Nat → Int} (hb : bid = [] ∨ bid.length = N) (h0 : bid = [] → ∀ k, k < N → g i k - q k < 0) (h1 : bid ≠ [] → ∀ k, k < N → g i k - q k = bid.getD k 0 - prices.getD k 0) :
    demOf bid prices = (dem g N q i, top g N q i) := by
  by_cases he : bid = []
  · have ht : top g N q i = 0 := top_eq (by omega) (fun k hk => by have := h0 he k hk; omega) (.inl rfl)
    have hd : dem g N q i = [] := by
      unfold dem
      rw [List.filter_eq_nil_iff]
      intro k hk
      have := h0 he k (List.mem_range.1 hk)
      rw [ht]; simp; omega
    rw [ht, hd, he]; rfl
  · have hl : bid.length = N := hb.resolve_left he
    have hm : ((List.range bid.length).foldl (demS fun k => bid.getD k 0 - prices.getD k 0) ([], 0)).2 = top g N q i := by
      rw [demS_max, hl]
      unfold top
      exact foldMax_congr _ _ (fun _ _ => rfl) (fun k hk _ => (h1 he k (List.mem_range.1 hk)).symm)
    have hL := demS_list (fun k => bid.getD k 0 - prices.getD k 0) bid.length
    rw [hm] at hL
    rw [demOf_fold]
    refine Prod.ext ?_ hm
    rw [hL, hl]
    unfold dem
    exact List.filter_congr fun k hk => by rw [h1 he k (List.mem_range.1 hk)]
end Go.Proofs.YtkddkkcfpnndlaaGreatDoor

namespace Go.Proofs.YtkddkkcfpnndlaaGreatDoor
open Go.RowKit

/-- a rise's state: a market, prices, what is wanted, who must have -/
structure StAt (w : World) (S : Nat) (ra ba oa qa wa ua : Option Addr) (rn rc bn bc on oc qn qc un uc : Nat) (m : Mkt) (q : List Int) (wants : List (List Int)) (must : List Int) : Prop where
  c0 : w.cell? ⟨S, 0, none⟩ = some (.slice ra rn rc)
  c1 : w.cell? ⟨S, 1, none⟩ = some (.slice ba bn bc)
  c2 : w.cell? ⟨S, 2, none⟩ = some (.slice oa on oc)
  c3 : w.cell? ⟨S, 3, none⟩ = some (.slice qa qn qc)
  c4 : w.cell? ⟨S, 4, none⟩ = some (.slice wa bn bn)
  c5 : w.cell? ⟨S, 5, none⟩ = some (.slice ua un uc)
  mkt : MktAt w ra ba oa rn rc bn bc on oc m
  pr : Ints w qa qn qc q
  wants : Rows w wa bn bn wants
  must : Ints w ua un uc must
theorem StAt.below {w w' : World} {S : Nat} {ra ba oa qa wa ua : Option Addr} {rn rc bn bc on oc qn qc un uc : Nat} {m : Mkt} {q : List Int} {wants : List (List Int)} {must : List Int}
    (h : StAt w S ra ba oa qa wa ua rn rc bn bc on oc qn qc un uc m q wants must) {B : Nat} (hb : Below B w w') (hB : w.heap.size ≤ B) : StAt w' S ra ba oa qa wa ua rn rc bn bc on oc qn qc un uc m q wants must := by
  have hs := block_lt_of_cell h.c0
  have hc : ∀ k, w'.cell? ⟨S, k, none⟩ = w.cell? ⟨S, k, none⟩ := fun k => hb.cell (p := ⟨S, k, none⟩) (by simp at hs ⊢; omega)
  exact ⟨(hc _).trans h.c0, (hc _).trans h.c1, (hc _).trans h.c2, (hc _).trans h.c3, (hc _).trans h.c4, (hc _).trans h.c5, h.mkt.below hb hB, h.pr.below hb hB, h.wants.below hb hB, h.must.below hb hB⟩

end Go.Proofs.YtkddkkcfpnndlaaGreatDoor

namespace Go.Proofs.YtkddkkcfpnndlaaGreatDoor
open Go.RowKit

/-! ### how far -/
def gnOf (bids : List (List Int)) (q : List Int) (i k : Nat) : Int := (bids.getD i []).getD k 0 - q.getD k 0
/-- what keeps one that wants nothing else: what it has, and what it has more than by others -/
def farRow (bids : List (List Int)) (q : List Int) (wants : List (List Nat)) (l : List Nat) (i : Nat) : List Int :=
  if ((wants.getD i []).any fun k => !l.contains k) then [] else
    gnOf bids q i ((wants.getD i []).getD 0 0) :: ((List.range q.length).filter fun k => !l.contains k).map fun k => gnOf bids q i ((wants.getD i []).getD 0 0) - gnOf bids q i k
def farAll (bids : List (List Int)) (q : List Int) (wants : List (List Nat)) (l mu : List Nat) : List Int := mu.flatMap (farRow bids q wants l)
/-- what far needs of a state -/
structure FarOk (m : Mkt) (q : List Int) (wants : List (List Nat)) (mu : List Nat) : Prop where
  q8 : q.length ≤ 8
  mu8 : mu.length ≤ 8
  lt : ∀ i, i ∈ mu → i < m.bids.length
  wl : wants.length = m.bids.length
  row : ∀ i, i ∈ mu → (m.bids.getD i []).length = q.length ∧ ∀ x, x ∈ m.bids.getD i [] → 0 ≤ x ∧ x ≤ 1000000
  pr : ∀ x, x ∈ q → 0 ≤ x ∧ x ≤ 2000000
  ne : ∀ i, i ∈ mu → wants.getD i [] ≠ []
  want : ∀ i, i ∈ mu → ∀ k, k ∈ wants.getD i [] → k < q.length
theorem FarOk.gn {m : Mkt} {q : List Int} {wants : List (List Nat)} {mu : List Nat} (h : FarOk m q wants mu) {i k : Nat} (hi : i ∈ mu) (hk : k < q.length) :
    ∃ bid x y, m.bids[i]? = some bid ∧ bid[k]? = some x ∧ q[k]? = some y ∧ (0 ≤ x ∧ x ≤ 1000000) ∧ (0 ≤ y ∧ y ≤ 2000000) ∧ gnOf m.bids q i k = x - y := by
  have h1 := h.lt i hi
  have hb : m.bids[i]? = some (m.bids[i]) := List.getElem?_eq_getElem h1
  have hg : m.bids.getD i [] = m.bids[i] := by rw [List.getD_eq_getElem?_getD, hb]; rfl
  obtain ⟨h2, h3⟩ := h.row i hi
  rw [hg] at h2 h3
  have hx : (m.bids[i])[k]? = some ((m.bids[i])[k]) := List.getElem?_eq_getElem (by omega)
  have hy : q[k]? = some (q[k]) := List.getElem?_eq_getElem hk
  refine ⟨_, _, _, hb, hx, hy, h3 _ (List.mem_of_getElem? hx), h.pr _ (List.mem_of_getElem? hy), ?_⟩
  unfold gnOf
  rw [hg, List.getD_eq_getElem?_getD, hx, List.getD_eq_getElem?_getD, hy]; rfl
end Go.Proofs.YtkddkkcfpnndlaaGreatDoor

namespace Go.Proofs.YtkddkkcfpnndlaaGreatDoor
open Go.RowKit Sale

/-- prices above the reserves -/
def qOf (m : Mkt) (prices : List Int) (k : Nat) : Int := prices.getD k 0 - m.res.getD k 0

structure EvOk (m : Mkt) (o : Outc) : Prop where
  fit : FitOk m o
  pr : ∀ k, k < m.res.length → m.res.getD k 0 ≤ o.prices.getD k 0 ∧ o.prices.getD k 0 ≤ 2000000
  even : Even (gi (gainsM m)) m.res.length m.bids.length (qOf m o.prices) (slotOf o.has)

theorem getD_mem {l : List Int} {k : Nat} (h : k < l.length) (d : Int) : l.getD k d ∈ l := by
  rw [List.getD_eq_getElem?_getD, List.getElem?_eq_getElem h]; exact List.getElem_mem _
theorem getD_some {l : List Int} {k : Nat} (h : k < l.length) (d : Int) : l[k]? = some (l.getD k d) := by
  rw [List.getD_eq_getElem?_getD, List.getElem?_eq_getElem h]; rfl

theorem MOk.bid_at {m : Mkt} (h : MOk m) {i : Nat} (hi : i < m.bids.length) : m.bids.getD i [] = [] ∨ ((m.bids.getD i []).length = m.res.length ∧ ∀ k, k < m.res.length → 0 ≤ bidAt m i k ∧ bidAt m i k ≤ 1000000) := by
  have hg : m.bids.getD i [] = m.bids[i] := by rw [List.getD_eq_getElem?_getD, List.getElem?_eq_getElem hi]; rfl
  rcases h.bid _ (List.getElem_mem hi) with e | ⟨h1, h2⟩
  · exact .inl (hg.trans e)
  · refine .inr ⟨by rw [hg]; exact h1, fun k hk => ?_⟩
    unfold bidAt
    rw [hg]
    exact h2 _ (getD_mem (by omega) 0)
/-- what one has by an item, at prices that may be -/
theorem gain_at {m : Mkt} (_h : MOk m) (prices : List Int) {i k : Nat} (hi : i < m.bids.length) (hk : k < m.res.length) :
    gi (gainsM m) i k - qOf m prices k = if m.bids.getD i [] = [] then -1 - qOf m prices k else bidAt m i k - prices.getD k 0 := by
  have hg : m.bids.getD i [] = m.bids[i] := by rw [List.getD_eq_getElem?_getD, List.getElem?_eq_getElem hi]; rfl
  rw [gi_bid hi hk, hg]
  unfold bidAt qOf
  rw [hg]
  split
  · rfl
  · omega
end Go.Proofs.YtkddkkcfpnndlaaGreatDoor

namespace Go.Proofs.YtkddkkcfpnndlaaGreatDoor
open Go.RowKit Sale

def isNone (b prices : List Int) : Bool := (demOf b prices).2 == 0
/-- what is wanted by who must have -/
def wantsM (m : Mkt) (prices : List Int) : List (List Nat) := m.bids.map fun b => if isNone b prices then [] else (demOf b prices).1
def mustM (m : Mkt) (prices : List Int) : List Nat := (List.range m.bids.length).filter fun i => !isNone (m.bids.getD i []) prices
def fewM (m : Mkt) (prices : List Int) : Option (List Nat) := Way.fewOf (nbOf (wantsM m prices)) m.res.length (mustM m prices)
def farM (m : Mkt) (prices : List Int) (X : List Nat) : Int := lmin (farAll m.bids prices (wantsM m prices) X (mustM m prices))
/-- prices, one step higher -/
def upBy (prices : List Int) (X : List Nat) (by' : Int) : List Int := (List.range prices.length).map fun k => if k ∈ X then prices.getD k 0 + by' else prices.getD k 0
def stepL (m : Mkt) (prices : List Int) : Option (List Int) := (fewM m prices).map fun X => upBy prices X (farM m prices X)

theorem upBy_len (prices : List Int) (X : List Nat) (b : Int) : (upBy prices X b).length = prices.length := by simp [upBy]
theorem upBy_get {prices : List Int} {X : List Nat} {b : Int} {k : Nat} (hk : k < prices.length) : (upBy prices X b).getD k 0 = if k ∈ X then prices.getD k 0 + b else prices.getD k 0 := by
  rw [List.getD_eq_getElem?_getD, upBy, List.getElem?_map, List.getElem?_range hk]; rfl
/-- prices that are at hand -/
structure PrOk (m : Mkt) (prices : List Int) : Prop where
  len : prices.length = m.res.length
  bd : ∀ k, k < m.res.length → m.res.getD k 0 ≤ prices.getD k 0 ∧ prices.getD k 0 ≤ 2000000
theorem PrOk.all {m : Mkt} (hm : MOk m) {prices : List Int} (h : PrOk m prices) : ∀ x, x ∈ prices → 0 ≤ x ∧ x ≤ 2000000 := fun x hx => by
  obtain ⟨k, hk⟩ := List.mem_iff_getElem?.1 hx
  have hl : k < prices.length := (List.getElem?_eq_some_iff.1 hk).1
  have h1 := h.bd k (by have := h.len; omega)
  rw [getD_at hk] at h1
  have h2 := hm.res _ (getD_mem (l := m.res) (k := k) (by have := h.len; omega) 0)
  omega
theorem PrOk.nonneg {m : Mkt} {prices : List Int} (h : PrOk m prices) : ∀ k, k < m.res.length → 0 ≤ qOf m prices k := fun k hk => by have := h.bd k hk; unfold qOf; omega

theorem dem_is {m : Mkt} (hm : MOk m) {prices : List Int} (h : PrOk m prices) {i : Nat} (hi : i < m.bids.length) :
    demOf (m.bids.getD i []) prices = (dem (gi (gainsM m)) m.res.length (qOf m prices) i, top (gi (gainsM m)) m.res.length (qOf m prices) i) := by
  refine demOf_is ?_ ?_ ?_
  · rcases hm.bid_at hi with e | e
    · exact .inl e
    · exact .inr e.1
  · intro he k hk
    rw [gain_at hm prices hi hk, if_pos he]
    have := h.nonneg k hk
    omega
  · intro he k hk
    rw [gain_at hm prices hi hk, if_neg he]; rfl
theorem isNone_is {m : Mkt} (hm : MOk m) {prices : List Int} (h : PrOk m prices) {i : Nat} (hi : i < m.bids.length) :
    isNone (m.bids.getD i []) prices = !decide (0 < top (gi (gainsM m)) m.res.length (qOf m prices) i) := by
  unfold isNone
  rw [dem_is hm h hi]
  have := top_nonneg (gi (gainsM m)) m.res.length (qOf m prices) i
  by_cases e : top (gi (gainsM m)) m.res.length (qOf m prices) i = 0
  · simp [e]
  · have h2 : 0 < top (gi (gainsM m)) m.res.length (qOf m prices) i := by omega
    simp [e, h2]
theorem nb_wants {m : Mkt} (hm : MOk m) {prices : List Int} (h : PrOk m prices) {i : Nat} (hi : i < m.bids.length) : nbOf (wantsM m prices) i = wantsOf (gi (gainsM m)) m.res.length (qOf m prices) i := by
  have hb : m.bids[i]? = some (m.bids.getD i []) := by rw [List.getD_eq_getElem?_getD, List.getElem?_eq_getElem hi]; rfl
  unfold nbOf wantsM
  rw [List.getElem?_map, hb]
  show (if isNone (m.bids.getD i []) prices = true then [] else (demOf (m.bids.getD i []) prices).1) = _
  rw [isNone_is hm h hi, dem_is hm h hi]
  unfold wantsOf
  by_cases e : 0 < top (gi (gainsM m)) m.res.length (qOf m prices) i
  · simp [e]
  · simp [e]
theorem mustM_is {m : Mkt} (hm : MOk m) {prices : List Int} (h : PrOk m prices) : mustM m prices = musts (gi (gainsM m)) m.res.length m.bids.length (qOf m prices) := by
  unfold mustM musts
  refine List.filter_congr fun i hi => ?_
  rw [isNone_is hm h (List.mem_range.1 hi), Bool.not_not]
theorem few_congr {nb nb' : Nat → List Nat} {N : Nat} {sm : List Nat} (h : ∀ i, i ∈ sm → nb i = nb' i) : Way.fewOf nb N sm = Way.fewOf nb' N sm := by
  have hw : ∀ X, Sale.within nb sm X = Sale.within nb' sm X := fun X => by
    unfold Sale.within
    exact List.filter_congr fun i hi => by rw [h i hi]
  have hv : Way.viol nb sm = Way.viol nb' sm := funext fun X => by unfold Way.viol; rw [hw]
  unfold Way.fewOf
  rw [hv]
theorem fewM_is {m : Mkt} (hm : MOk m) {prices : List Int} (h : PrOk m prices) : fewM m prices = fewQ (gi (gainsM m)) m.res.length m.bids.length (qOf m prices) := by
  unfold fewM fewQ
  rw [mustM_is hm h]
  exact few_congr fun i hi => nb_wants hm h (mem_musts.1 hi).1
theorem flat_filter {α β : Type} (p : α → Bool) (f : α → List β) : ∀ l : List α, (l.filter p).flatMap f = l.flatMap fun x => if p x then f x else []
  | [] => rfl
  | x :: l => by
    rw [List.filter_cons, List.flatMap_cons, ← flat_filter p f l]
    cases hp : p x <;> simp
theorem flat_congr {α β : Type} {f g : α → List β} : ∀ {l : List α}, (∀ x, x ∈ l → f x = g x) → l.flatMap f = l.flatMap g
  | [], _ => rfl
  | x :: l, h => by
    rw [List.flatMap_cons, List.flatMap_cons, h x List.mem_cons_self, flat_congr fun y hy => h y (List.mem_cons_of_mem _ hy)]
theorem farM_is {m : Mkt} (hm : MOk m) {prices : List Int} (h : PrOk m prices) (X : List Nat) : farM m prices X = farOf (gi (gainsM m)) m.res.length m.bids.length (qOf m prices) X := by
  unfold farM farOf farAll
  congr 1
  rw [show Sale.within (wantsOf (gi (gainsM m)) m.res.length (qOf m prices)) (musts (gi (gainsM m)) m.res.length m.bids.length (qOf m prices)) X = (musts (gi (gainsM m)) m.res.length m.bids.length (qOf m prices)).filter fun i => (wantsOf (gi (gainsM m)) m.res.length (qOf m prices) i).all fun k => X.contains k from rfl, flat_filter, mustM_is hm h]
  refine flat_congr fun i hi => ?_
  obtain ⟨hiM, htop⟩ := mem_musts.1 hi
  have hw : (wantsM m prices).getD i [] = wantsOf (gi (gainsM m)) m.res.length (qOf m prices) i := by rw [← nb_wants hm h hiM]; unfold nbOf; rw [List.getD_eq_getElem?_getD]
  have hd : wantsOf (gi (gainsM m)) m.res.length (qOf m prices) i = dem (gi (gainsM m)) m.res.length (qOf m prices) i := by unfold wantsOf; rw [if_pos htop]
  unfold farRow
  rw [hw]
  by_cases hal : ((wantsOf (gi (gainsM m)) m.res.length (qOf m prices) i).all fun k => X.contains k) = true
  · rw [if_pos hal, if_neg (by
      rw [Bool.not_eq_true, List.any_eq_false]
      intro k hk
      have := List.all_eq_true.1 hal k hk
      rw [this]; simp)]
    have hne : m.bids.getD i [] ≠ [] := fun e => by
      have : top (gi (gainsM m)) m.res.length (qOf m prices) i = 0 := top_eq (Int.le_refl _) (fun k hk => by rw [gain_at hm prices hiM hk, if_pos e]; have := h.nonneg k hk; omega) (.inl rfl)
      omega
    have hgn : ∀ k, k < m.res.length → gnOf m.bids prices i k = gi (gainsM m) i k - qOf m prices k := fun k hk => by rw [gain_at hm prices hiM hk, if_neg hne]; rfl
    have hdne : dem (gi (gainsM m)) m.res.length (qOf m prices) i ≠ [] := fun e => by
      rcases top_cases (gi (gainsM m)) m.res.length (qOf m prices) i with h0 | ⟨k, hk, h0⟩
      · omega
      · have : k ∈ dem (gi (gainsM m)) m.res.length (qOf m prices) i := mem_dem.2 ⟨hk, h0.symm⟩
        rw [e] at this; cases this
    have h0 : gnOf m.bids prices i ((wantsOf (gi (gainsM m)) m.res.length (qOf m prices) i).getD 0 0) = top (gi (gainsM m)) m.res.length (qOf m prices) i := by
      rw [hd]
      obtain ⟨k, hk⟩ : ∃ k, (dem (gi (gainsM m)) m.res.length (qOf m prices) i)[0]? = some k := ⟨_, List.getElem?_eq_getElem (List.length_pos_iff.2 hdne)⟩
      rw [List.getD_eq_getElem?_getD, hk, Option.getD_some]
      obtain ⟨h1, h2⟩ := mem_dem.1 (List.mem_of_getElem? hk)
      rw [hgn k h1, h2]
    unfold farL
    rw [h0, h.len]
    congr 1
    refine List.map_congr_left fun k hk => ?_
    rw [hgn k (List.mem_range.1 (List.mem_filter.1 hk).1)]
  · rw [if_neg hal, if_pos (by
      rw [List.any_eq_true]
      rw [List.all_eq_true] at hal
      simp only [Classical.not_forall] at hal
      obtain ⟨k, hk, hc⟩ := hal
      exact ⟨k, hk, by simpa using hc⟩)]

/-- a step is the plain text's step -/
theorem stepL_none {m : Mkt} (hm : MOk m) {prices : List Int} (h : PrOk m prices) : stepL m prices = none ↔ stepQ (gi (gainsM m)) m.res.length m.bids.length (qOf m prices) = none := by
  unfold stepL stepQ
  rw [fewM_is hm h]
  simp
theorem stepL_some {m : Mkt} (hm : MOk m) {prices p' : List Int} (h : PrOk m prices) (hs : stepL m prices = some p') : p'.length = m.res.length ∧ ∃ q', stepQ (gi (gainsM m)) m.res.length m.bids.length (qOf m prices) = some q' ∧ ∀ k, k < m.res.length → q' k = qOf m p' k := by
  unfold stepL at hs
  rw [fewM_is hm h] at hs
  obtain ⟨X, hX, rfl⟩ := Option.map_eq_some_iff.1 hs
  refine ⟨by rw [upBy_len]; exact h.len, _, by unfold stepQ; rw [hX]; rfl, fun k hk => ?_⟩
  have e : qOf m (upBy prices X (farM m prices X)) k = if k ∈ X then prices.getD k 0 + farM m prices X - m.res.getD k 0 else prices.getD k 0 - m.res.getD k 0 := by
    unfold qOf
    rw [upBy_get (by have := h.len; omega)]
    split <;> rfl
  rw [e, farM_is hm h]
  show (if k ∈ X then qOf m prices k + _ else qOf m prices k) = _
  unfold qOf
  split <;> omega

/-- prices on the way -/
structure OnWay (m : Mkt) (prices : List Int) : Prop where
  len : prices.length = m.res.length
  ris : Rising (gi (gainsM m)) m.res.length m.bids.length (qOf m prices)
theorem OnWay.pr {m : Mkt} (hm : MOk m) {prices : List Int} (h : OnWay m prices) : PrOk m prices :=
  ⟨h.len, fun k hk => by
    have h1 := h.ris.nonneg k hk
    have h2 := h.ris.bd (B := 1000000) (by omega) (fun i _ k _ => (hm.bd i k).2) k hk
    have h3 := hm.res _ (getD_mem (l := m.res) hk 0)
    unfold qOf at h1 h2
    omega⟩
theorem OnWay.start {m : Mkt} : OnWay m m.res :=
  ⟨rfl, (Rising.start (gi (gainsM m)) m.res.length m.bids.length).congr fun k _ => by unfold qOf; omega⟩
theorem OnWay.step {m : Mkt} (hm : MOk m) {prices p' : List Int} (h : OnWay m prices) (hs : stepL m prices = some p') : OnWay m p' := by
  obtain ⟨hl, q', hq, he⟩ := stepL_some hm (h.pr hm) hs
  exact ⟨hl, (h.ris.step hq).congr he⟩
theorem OnWay.up {m : Mkt} (hm : MOk m) {prices p' : List Int} (h : OnWay m prices) (hs : stepL m prices = some p') : sumN (qOf m prices) m.res.length + 1 ≤ sumN (qOf m p') m.res.length := by
  obtain ⟨hl, q', hq, he⟩ := stepL_some hm (h.pr hm) hs
  rw [← sumN_congr he]
  exact (step_up hq).2
theorem OnWay.sum {m : Mkt} (hm : MOk m) {prices : List Int} (h : OnWay m prices) : 0 ≤ sumN (qOf m prices) m.res.length ∧ sumN (qOf m prices) m.res.length ≤ 8000000 := by
  refine ⟨sumN_nonneg h.ris.nonneg, ?_⟩
  have h2 : ∀ k, k < m.res.length → qOf m prices k ≤ (fun _ : Nat => (1000000 : Int)) k := h.ris.bd (B := 1000000) (by omega) (fun i _ k _ => (hm.bd i k).2)
  have h3 := sumN_le h2
  have h4 : ∀ n : Nat, sumN (fun _ : Nat => (1000000 : Int)) n = 1000000 * (n : Int) := fun n => by
    induction n with
    | zero => rfl
    | succ n ih => simp only [sumN, ih]; omega
  rw [h4] at h3
  have := hm.n8
  omega

/-- the prices, step by step, from some on -/
def riseL (m : Mkt) : Nat → List Int → List Int
  | 0, p => p
  | n + 1, p => match stepL m p with | none => p | some p' => riseL m n p'
theorem riseL_stop {m : Mkt} : ∀ (n : Nat) (p : List Int), stepL m (riseL m n p) = none → ∀ n', n ≤ n' → riseL m n' p = riseL m n p
  | 0, p, h, 0, _ => rfl
  | 0, p, h, n' + 1, _ => by
    have h2 : stepL m p = none := h
    show (match stepL m p with | none => p | some p' => riseL m n' p') = p
    rw [h2]
  | n + 1, p, h, 0, hn => by omega
  | n + 1, p, h, n' + 1, hn => by
    show (match stepL m p with | none => p | some p' => riseL m n' p') = (match stepL m p with | none => p | some p' => riseL m n p')
    cases hs : stepL m p with
    | none => rfl
    | some p' =>
      have e : riseL m (n + 1) p = riseL m n p' := by show (match stepL m p with | none => p | some p' => riseL m n p') = _; rw [hs]
      rw [e] at h
      exact riseL_stop n p' h n' (by omega)
/-- the least prices -/
def leastM (m : Mkt) : List Int := riseL m 8000001 m.res
theorem leastM_at {m : Mkt} (n : Nat) (hn : n ≤ 8000001) (h : stepL m (riseL m n m.res) = none) : leastM m = riseL m n m.res := riseL_stop n m.res h _ hn
theorem riseL_more {m : Mkt} : ∀ (n : Nat) (p : List Int), riseL m (n + 1) p = match stepL m (riseL m n p) with | none => riseL m n p | some p' => p'
  | 0, p => by
    show (match stepL m p with | none => p | some p' => p') = (match stepL m p with | none => p | some p' => p'); rfl
  | n + 1, p => by
    show (match stepL m p with | none => p | some p' => riseL m (n + 1) p') = _
    cases hs : stepL m p with
    | none =>
      have e : riseL m (n + 1) p = p := by show (match stepL m p with | none => p | some p' => riseL m n p') = p; rw [hs]
      rw [e, hs]
    | some p' =>
      have e : riseL m (n + 1) p = riseL m n p' := by show (match stepL m p with | none => p | some p' => riseL m n p') = _; rw [hs]
      rw [e]
      exact riseL_more n p'
theorem riseL_on {m : Mkt} (hm : MOk m) : ∀ n, OnWay m (riseL m n m.res) ∧ ((∃ n', n' < n ∧ stepL m (riseL m n' m.res) = none) ∨ (n : Int) ≤ sumN (qOf m (riseL m n m.res)) m.res.length)
  | 0 => ⟨OnWay.start, .inr (OnWay.start (m := m).sum hm).1⟩
  | n + 1 => by
    obtain ⟨h1, h2⟩ := riseL_on hm n
    have e := riseL_more (m := m) n m.res
    cases hs : stepL m (riseL m n m.res) with
    | none =>
      rw [hs] at e
      exact ⟨by rw [e]; exact h1, .inl ⟨n, by omega, hs⟩⟩
    | some p' =>
      rw [hs] at e
      have e : riseL m (n + 1) m.res = p' := e
      rw [e]
      refine ⟨h1.step hm hs, ?_⟩
      rcases h2 with ⟨n', hn, h⟩ | h2
      · exact .inl ⟨n', by omega, h⟩
      · have := h1.up hm hs
        exact .inr (by omega)
theorem leastM_stop {m : Mkt} (hm : MOk m) : stepL m (leastM m) = none := by
  obtain ⟨h1, h2⟩ := riseL_on hm 8000001
  rcases h2 with ⟨n', hn, h⟩ | h2
  · have e : leastM m = riseL m n' m.res := leastM_at n' (by omega) h
    rw [e]; exact h
  · have := (h1.sum hm).2
    omega
theorem leastM_on {m : Mkt} (hm : MOk m) : OnWay m (leastM m) := (riseL_on hm _).1
/-- what is known of the least prices -/
structure LeastOk (m : Mkt) (p : List Int) : Prop where
  pr : PrOk m p
  low : Lowest (gi (gainsM m)) m.res.length m.bids.length (qOf m p)
  cover : Cover (gi (gainsM m)) m.res.length m.bids.length (qOf m p)
theorem MOk.least {m : Mkt} (hm : MOk m) : LeastOk m (leastM m) :=
  ⟨(leastM_on hm).pr hm, (leastM_on hm).ris.low, step_none hm.n8 ((stepL_none hm ((leastM_on hm).pr hm)).1 (leastM_stop hm))⟩

end Go.Proofs.YtkddkkcfpnndlaaGreatDoor
