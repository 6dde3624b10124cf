/- Prices that rise, as the code reckons them, and in the words of the plain texts. The laws of outcomes in the words of the plain texts. Twins of lists, of a market: what a write leaves, and how they are read. Walks: how far a set may rise. Walks: one step of a rise. Walks: the steps of a rise, one after the other. Walks: salesroomlaw01.TwinOutcome. -/
import Derived.Test.YtkddkkcfpnndlaaGreatDoorPg41
import Derived.Test.YtkddkkcfpnndlaaGreatDoorPg40
import Derived.Test.YtkddkkcfpnndlaaGreatDoorPg42
import Derived.Test.YtkddkkcfpnndlaaGreatDoorPg43
import Derived.Test.YtkddkkcfpnndlaaGreatDoorPg09
import Derived.Test.YtkddkkcfpnndlaaGreatDoorPg19
import Derived.Test.YtkddkkcfpnndlaaGreatDoorPg29
import Derived.Test.YtkddkkcfpnndlaaGreatDoorPg39
import Derived.Test.YtkddkkcfpnndlaaGreatDoorPg10
import Derived.RegionCalls
import Derived.Deep.RegionHeld3
namespace Go.Proofs.YtkddkkcfpnndlaaGreatDoor
open Go.RowKit Sale

def isNone (b prices : List Int) : Bool := (demOf b prices).2 == 0
/-- what is wanted by who must have -/
def wantsM (m : Mkt) (prices : List Int) : List (List Nat) := m.bids.map fun b => if isNone b prices then [] else (demOf b prices).1
def mustM (m : Mkt) (prices : List Int) : List Nat := (List.range m.bids.length).filter fun i => !isNone (m.bids.getD i []) prices
def fewM (m : Mkt) (prices : List Int) : Option (List Nat) := Way.fewOf (nbOf (wantsM m prices)) m.res.length (mustM m prices)
def farM (m : Mkt) (prices : List Int) (X : List Nat) : Int := lmin (farAll m.bids prices (wantsM m prices) X (mustM m prices))
/-- prices, one step higher -/
def upBy (prices : List Int) (X : List Nat) (by' : Int) : List Int := (List.range prices.length).map fun k => if k ∈ X then prices.getD k 0 + by' else prices.getD k 0
def stepL (m : Mkt) (prices : List Int) : Option (List Int) := (fewM m prices).map fun X => upBy prices X (farM m prices X)

theorem upBy_len (prices : List Int) (X : List Nat) (b : Int) : (upBy prices X b).length = prices.length := by simp [upBy]
theorem upBy_get {prices : List Int} {X : List Nat} {b : Int} {k : Nat} (hk : k < prices.length) : (upBy prices X b).getD k 0 = if k ∈ X then prices.getD k 0 + b else prices.getD k 0 := by
  rw [List.getD_eq_getElem?_getD, upBy, List.getElem?_map, List.getElem?_range hk]; rfl
/-- prices that are at hand -/
structure PrOk (m : Mkt) (prices : List Int) : Prop where
  len : prices.length = m.res.length
  bd : ∀ k, k < m.res.length → m.res.getD k 0 ≤ prices.getD k 0 ∧ prices.getD k 0 ≤ 2000000
theorem PrOk.all {m : Mkt} (hm : MOk m) {prices : List Int} (h : PrOk m prices) : ∀ x, x ∈ prices → 0 ≤ x ∧ x ≤ 2000000 := fun x hx => by
  obtain ⟨k, hk⟩ := List.mem_iff_getElem?.1 hx
  have hl : k < prices.length := (List.getElem?_eq_some_iff.1 hk).1
  have h1 := h.bd k (by have := h.len; omega)
  rw [getD_at hk] at h1
  have h2 := hm.res _ (getD_mem (l := m.res) (k := k) (by have := h.len; omega) 0)
  omega
theorem PrOk.nonneg {m : Mkt} {prices : List Int} (h : PrOk m prices) : ∀ k, k < m.res.length → 0 ≤ qOf m prices k := fun k hk => by have := h.bd k hk; unfold qOf; omega

theorem dem_is {m : Mkt} (hm : MOk m) {prices : List Int} (h : PrOk m prices) {i : Nat} (hi : i < m.bids.length) :
    demOf (m.bids.getD i []) prices = (dem (gi (gainsM m)) m.res.length (qOf m prices) i, top (gi (gainsM m)) m.res.length (qOf m prices) i) := by
  refine demOf_is ?_ ?_ ?_
  · rcases hm.bid_at hi with e | e
    · exact .inl e
    · exact .inr e.1
  · intro he k hk
    rw [gain_at hm prices hi hk, if_pos he]
    have := h.nonneg k hk
    omega
  · intro he k hk
    rw [gain_at hm prices hi hk, if_neg he]; rfl
theorem isNone_is {m : Mkt} (hm : MOk m) {prices : List Int} (h : PrOk m prices) {i : Nat} (hi : i < m.bids.length) :
    isNone (m.bids.getD i []) prices = !decide (0 < top (gi (gainsM m)) m.res.length (qOf m prices) i) := by
  unfold isNone
  rw [dem_is hm h hi]
  have := top_nonneg (gi (gainsM m)) m.res.length (qOf m prices) i
  by_cases e : top (gi (gainsM m)) m.res.length (qOf m prices) i = 0
  · simp [e]
  · have h2 : 0 < top (gi (gainsM m)) m.res.length (qOf m prices) i := by omega
    simp [e, h2]
theorem nb_wants {m : Mkt} (hm : MOk m) {prices : List Int} (h : PrOk m prices) {i : Nat} (hi : i < m.bids.length) : nbOf (wantsM m prices) i = wantsOf (gi (gainsM m)) m.res.length (qOf m prices) i := by
  have hb : m.bids[i]? = some (m.bids.getD i []) := by rw [List.getD_eq_getElem?_getD, List.getElem?_eq_getElem hi]; rfl
  unfold nbOf wantsM
  rw [List.getElem?_map, hb]
  show (if isNone (m.bids.getD i []) prices = true then [] else (demOf (m.bids.getD i []) prices).1) = _
  rw [isNone_is hm h hi, dem_is hm h hi]
  unfold wantsOf
  by_cases e : 0 < top (gi (gainsM m)) m.res.length (qOf m prices) i
  · simp [e]
  · simp [e]
theorem mustM_is {m : Mkt} (hm : MOk m) {prices : List Int} (h : PrOk m prices) : mustM m prices = musts (gi (gainsM m)) m.res.length m.bids.length (qOf m prices) := by
  unfold mustM musts
  refine List.filter_congr fun i hi => ?_
  rw [isNone_is hm h (List.mem_range.1 hi), Bool.not_not]
theorem few_congr {nb nb' : Nat → List Nat} {N : Nat} {sm : List Nat} (h : ∀ i, i ∈ sm → nb i = nb' i) : Way.fewOf nb N sm = Way.fewOf nb' N sm := by
  have hw : ∀ X, Sale.within nb sm X = Sale.within nb' sm X := fun X => by
    unfold Sale.within
    exact List.filter_congr fun i hi => by rw [h i hi]
  have hv : Way.viol nb sm = Way.viol nb' sm := funext fun X => by unfold Way.viol; rw [hw]
  unfold Way.fewOf
  rw [hv]
theorem fewM_is {m : Mkt} (hm : MOk m) {prices : List Int} (h : PrOk m prices) : fewM m prices = fewQ (gi (gainsM m)) m.res.length m.bids.length (qOf m prices) := by
  unfold fewM fewQ
  rw [mustM_is hm h]
  exact few_congr fun i hi => nb_wants hm h (mem_musts.1 hi).1
theorem flat_filter {α β : Type} (p : α → Bool) (f : α → List β) : ∀ l : List α, (l.filter p).flatMap f = l.flatMap fun x => if p x then f x else []
  | [] => rfl
  | x :: l => by
    rw [List.filter_cons, List.flatMap_cons, ← flat_filter p f l]
    cases hp : p x <;> simp
theorem flat_congr {α β : Type} {f g : α → List β} : ∀ {l : List α}, (∀ x, x ∈ l → f x = g x) → l.flatMap f = l.flatMap g
  | [], _ => rfl
  | x :: l, h => by
    rw [List.flatMap_cons, List.flatMap_cons, h x List.mem_cons_self, flat_congr fun y hy => h y (List.mem_cons_of_mem _ hy)]
theorem farM_is {m : Mkt} (hm : MOk m) {prices : List Int} (h : PrOk m prices) (X : List Nat) : farM m prices X = farOf (gi (gainsM m)) m.res.length m.bids.length (qOf m prices) X := by
  unfold farM farOf farAll
  congr 1
  rw [show Sale.within (wantsOf (gi (gainsM m)) m.res.length (qOf m prices)) (musts (gi (gainsM m)) m.res.length m.bids.length (qOf m prices)) X = (musts (gi (gainsM m)) m.res.length m.bids.length (qOf m prices)).filter fun i => (wantsOf (gi (gainsM m)) m.res.length (qOf m prices) i).all fun k => X.contains k from rfl, flat_filter, mustM_is hm h]
  refine flat_congr fun i hi => ?_
  obtain ⟨hiM, htop⟩ := mem_musts.1 hi
  have hw : (wantsM m prices).getD i [] = wantsOf (gi (gainsM m)) m.res.length (qOf m prices) i := by rw [← nb_wants hm h hiM]; unfold nbOf; rw [List.getD_eq_getElem?_getD]
  have hd : wantsOf (gi (gainsM m)) m.res.length (qOf m prices) i = dem (gi (gainsM m)) m.res.length (qOf m prices) i := by unfold wantsOf; rw [if_pos htop]
  unfold farRow
  rw [hw]
  by_cases hal : ((wantsOf (gi (gainsM m)) m.res.length (qOf m prices) i).all fun k => X.contains k) = true
  · rw [if_pos hal, if_neg (by
      rw [Bool.not_eq_true, List.any_eq_false]
      intro k hk
      have := List.all_eq_true.1 hal k hk
      rw [this]; simp)]
    have hne : m.bids.getD i [] ≠ [] := fun e => by
      have : top (gi (gainsM m)) m.res.length (qOf m prices) i = 0 := top_eq (Int.le_refl _) (fun k hk => by rw [gain_at hm prices hiM hk, if_pos e]; have := h.nonneg k hk; omega) (.inl rfl)
      omega
    have hgn : ∀ k, k < m.res.length → gnOf m.bids prices i k = gi (gainsM m) i k - qOf m prices k := fun k hk => by rw [gain_at hm prices hiM hk, if_neg hne]; rfl
    have hdne : dem (gi (gainsM m)) m.res.length (qOf m prices) i ≠ [] := fun e => by
      rcases top_cases (gi (gainsM m)) m.res.length (qOf m prices) i with h0 | ⟨k, hk, h0⟩
      · omega
      · have : k ∈ dem (gi (gainsM m)) m.res.length (qOf m prices) i := mem_dem.2 ⟨hk, h0.symm⟩
        rw [e] at this; cases this
    have h0 : gnOf m.bids prices i ((wantsOf (gi (gainsM m)) m.res.length (qOf m prices) i).getD 0 0) = top (gi (gainsM m)) m.res.length (qOf m prices) i := by
      rw [hd]
      obtain ⟨k, hk⟩ : ∃ k, (dem (gi (gainsM m)) m.res.length (qOf m prices) i)[0]? = some k := ⟨_, List.getElem?_eq_getElem (List.length_pos_iff.2 hdne)⟩
      rw [List.getD_eq_getElem?_getD, hk, Option.getD_some]
      obtain ⟨h1, h2⟩ := mem_dem.1 (List.mem_of_getElem? hk)
      rw [hgn k h1, h2]
    unfold farL
    rw [h0, h.len]
    congr 1
    refine List.map_congr_left fun k hk => ?_
    rw [hgn k (List.mem_range.1 (List.mem_filter.1 hk).1)]
  · rw [if_neg hal, if_pos (by
      rw [List.any_eq_true]
      rw [List.all_eq_true] at hal
      simp only [Classical.not_forall] at hal
      obtain ⟨k, hk, hc⟩ := hal
      exact ⟨k, hk, by simpa using hc⟩)]

/-- a step is the plain text's step -/
theorem stepL_none {m : Mkt} (hm : MOk m) {prices : List Int} (h : PrOk m prices) : stepL m prices = none ↔ stepQ (gi (gainsM m)) m.res.length m.bids.length (qOf m prices) = none := by
  unfold stepL stepQ
  rw [fewM_is hm h]
  simp
theorem stepL_some {m : Mkt} (hm : MOk m) {prices p' : List Int} (h : PrOk m prices) (hs : stepL m prices = some p') : p'.length = m.res.length ∧ ∃ q', stepQ (gi (gainsM m)) m.res.length m.bids.length (qOf m prices) = some q' ∧ ∀ k, k < m.res.length → q' k = qOf m p' k := by
  unfold stepL at hs
  rw [fewM_is hm h] at hs
  obtain ⟨X, hX, rfl⟩ := Option.map_eq_some_iff.1 hs
  refine ⟨by rw [upBy_len]; exact h.len, _, by unfold stepQ; rw [hX]; rfl, fun k hk => ?_⟩
  have e : qOf m (upBy prices X (farM m prices X)) k = if k ∈ X then prices.getD k 0 + farM m prices X - m.res.getD k 0 else prices.getD k 0 - m.res.getD k 0 := by
    unfold qOf
    rw [upBy_get (by have := h.len; omega)]
    split <;> rfl
  rw [e, farM_is hm h]
  show (if k ∈ X then qOf m prices k + _ else qOf m prices k) = _
  unfold qOf
  split <;> omega

/-- prices on the way -/
structure OnWay (m : Mkt) (prices : List Int) : Prop where
  len : prices.length = m.res.length
  ris : Rising (gi (gainsM m)) m.res.length m.bids.length (qOf m prices)
theorem OnWay.pr {m : Mkt} (hm : MOk m) {prices : List Int} (h : OnWay m prices) : PrOk m prices :=
  ⟨h.len, fun k hk => by
    have h1 := h.ris.nonneg k hk
    have h2 := h.ris.bd (B := 1000000) (by omega) (fun i _ k _ => (hm.bd i k).2) k hk
    have h3 := hm.res _ (getD_mem (l := m.res) hk 0)
    unfold qOf at h1 h2
    omega⟩
theorem OnWay.start {m : Mkt} : OnWay m m.res :=
  ⟨rfl, (Rising.start (gi (gainsM m)) m.res.length m.bids.length).congr fun k _ => by unfold qOf; omega⟩
theorem OnWay.step {m : Mkt} (hm : MOk m) {prices p' : List Int} (h : OnWay m prices) (hs : stepL m prices = some p') : OnWay m p' := by
  obtain ⟨hl, q', hq, he⟩ := stepL_some hm (h.pr hm) hs
  exact ⟨hl, (h.ris.step hq).congr he⟩
theorem OnWay.up {m : Mkt} (hm : MOk m) {prices p' : List Int} (h : OnWay m prices) (hs : stepL m prices = some p') : sumN (qOf m prices) m.res.length + 1 ≤ sumN (qOf m p') m.res.length := by
  obtain ⟨hl, q', hq, he⟩ := stepL_some hm (h.pr hm) hs
  rw [← sumN_congr he]
  exact (step_up hq).2
theorem OnWay.sum {m : Mkt} (hm : MOk m) {prices : List Int} (h : OnWay m prices) : 0 ≤ sumN (qOf m prices) m.res.length ∧ sumN (qOf m prices) m.res.length ≤ 8000000 := by
  refine ⟨sumN_nonneg h.ris.nonneg, ?_⟩
  have h2 : ∀ k, k < m.res.length → qOf m prices k ≤ (fun _ : Nat => (1000000 : Int)) k := h.ris.bd (B := 1000000) (by omega) (fun i _ k _ => (hm.bd i k).2)
  have h3 := sumN_le h2
  have h4 : ∀ n : Nat, sumN (fun _ : Nat => (1000000 : Int)) n = 1000000 * (n : Int) := fun n => by
    induction n with
    | zero => rfl
    | succ n ih => simp only [sumN, ih]; omega
  rw [h4] at h3
  have := hm.n8
  omega

/-- the prices, step by step, from some on -/
def riseL (m : Mkt) : Nat → List Int → List Int
  | 0, p => p
  | n + 1, p => match stepL m p with | none => p | some p' => riseL m n p'
theorem riseL_stop {m : Mkt} : ∀ (n : Nat) (p : List Int), stepL m (riseL m n p) = none → ∀ n', n ≤ n' → riseL m n' p = riseL m n p
  | 0, p, h, 0, _ => rfl
  | 0, p, h, n' + 1, _ => by
    have h2 : stepL m p = none := h
    show (match stepL m p with | none => p | some p' => riseL m n' p') = p
    rw [h2]
  | n + 1, p, h, 0, hn => by omega
  | n + 1, p, h, n' + 1, hn => by
    show (match stepL m p with | none => p | some p' => riseL m n' p') = (match stepL m p with | none => p | some p' => riseL m n p')
    cases hs : stepL m p with
    | none => rfl
    | some p' =>
      have e : riseL m (n + 1) p = riseL m n p' := by show (match stepL m p with | none => p | some p' => riseL m n p') = _; rw [hs]
      rw [e] at h
      exact riseL_stop n p' h n' (by omega)
/-- the least prices -/
def leastM (m : Mkt) : List Int := riseL m 8000001 m.res
theorem leastM_at {m : Mkt} (n : Nat) (hn : n ≤ 8000001) (h : stepL m (riseL m n m.res) = none) : leastM m = riseL m n m.res := riseL_stop n m.res h _ hn
theorem riseL_more {m : Mkt} : ∀ (n : Nat) (p : List Int), riseL m (n + 1) p = match stepL m (riseL m n p) with | none => riseL m n p | some p' => p'
  | 0, p => by
    show (match stepL m p with | none => p | some p' => p') = (match stepL m p with | none => p | some p' => p'); rfl
  | n + 1, p => by
    show (match stepL m p with | none => p | some p' => riseL m (n + 1) p') = _
    cases hs : stepL m p with
    | none =>
      have e : riseL m (n + 1) p = p := by show (match stepL m p with | none => p | some p' => riseL m n p') = p; rw [hs]
      rw [e, hs]
    | some p' =>
      have e : riseL m (n + 1) p = riseL m n p' := by show (match stepL m p with | none => p | some p' => riseL m n p') = _; rw [hs]
      rw [e]
      exact riseL_more n p'
theorem riseL_on {m : Mkt} (hm : MOk m) : ∀ n, OnWay m (riseL m n m.res) ∧ ((∃ n', n' < n ∧ stepL m (riseL m n' m.res) = none) ∨ (n : Int) ≤ sumN (qOf m (riseL m n m.res)) m.res.length)
  | 0 => ⟨OnWay.start, .inr (OnWay.start (m := m).sum hm).1⟩
  | n + 1 => by
    obtain ⟨h1, h2⟩ := riseL_on hm n
    have e := riseL_more (m := m) n m.res
    cases hs : stepL m (riseL m n m.res) with
    | none =>
      rw [hs] at e
      exact ⟨by rw [e]; exact h1, .inl ⟨n, by omega, hs⟩⟩
    | some p' =>
      rw [hs] at e
      have e : riseL m (n + 1) m.res = p' := e
      rw [e]
      refine ⟨h1.step hm hs, ?_⟩
      rcases h2 with ⟨n', hn, h⟩ | h2
      · exact .inl ⟨n', by omega, h⟩
      · have := h1.up hm hs
        exact .inr (by omega)
theorem leastM_stop {m : Mkt} (hm : MOk m) : stepL m (leastM m) = none := by
  obtain ⟨h1, h2⟩ := riseL_on hm 8000001
  rcases h2 with ⟨n', hn, h⟩ | h2
  · have e : leastM m = riseL m n' m.res := leastM_at n' (by omega) h
    rw [e]; exact h
  · have := (h1.sum hm).2
    omega
theorem leastM_on {m : Mkt} (hm : MOk m) : OnWay m (leastM m) := (riseL_on hm _).1
/-- what is known of the least prices -/
structure LeastOk (m : Mkt) (p : List Int) : Prop where
  pr : PrOk m p
  low : Lowest (gi (gainsM m)) m.res.length m.bids.length (qOf m p)
  cover : Cover (gi (gainsM m)) m.res.length m.bids.length (qOf m p)
theorem MOk.least {m : Mkt} (hm : MOk m) : LeastOk m (leastM m) :=
  ⟨(leastM_on hm).pr hm, (leastM_on hm).ris.low, step_none hm.n8 ((stepL_none hm ((leastM_on hm).pr hm)).1 (leastM_stop hm))⟩

end Go.Proofs.YtkddkkcfpnndlaaGreatDoor

namespace Go.Proofs.YtkddkkcfpnndlaaGreatDoor
open Go.RowKit Sale

theorem even_congr {g : Nat → Nat → Int} {N M : Nat} {q q' : Nat → Int} {m : Nat → Option Nat} (h : ∀ k, k < N → q k = q' k) (he : Even g N M q m) : Even g N M q' m := by
  have hs : ∀ i, i < M → sur g q m i = sur g q' m i := fun i hi => by
    cases hm : m i with
    | none => rw [sur_none hm, sur_none hm]
    | some k => rw [sur_some hm, sur_some hm, h k (he.inj.lt i hi k hm)]
  exact ⟨fun k hk => by rw [← h k hk]; exact he.nonneg k hk, he.inj, fun i hi => by rw [← hs i hi]; exact he.zero i hi, fun i hi k hk => by rw [← h k hk, ← hs i hi]; exact he.best i hi k hk, fun k hk hp => he.sold k hk (by rw [h k hk]; exact hp)⟩

/-! ### no price is lower -/
theorem EvOk.low {m : Mkt} {o : Outc} (h : EvOk m o) {k : Nat} (hk : k < m.res.length) : (leastM m).getD k 0 ≤ o.prices.getD k 0 := by
  have := h.fit.mok.least.low (qOf m o.prices) h.even.nonneg h.even.valid.cover k hk
  unfold qOf at this
  omega
theorem EvOk.most {m : Mkt} {o : Outc} (h : EvOk m o) : total (gi (gainsM m)) (slotOf o.has) (List.range m.bids.length) = opt (gi (gainsM m)) m.res.length (List.range m.bids.length) (fun _ => true) := h.even.opt
/-! ### of two the lesser and the greater ones -/
theorem EvOk.join {m : Mkt} {hs a b l : List Int} (ha : EvOk m ⟨hs, a⟩) (hb : EvOk m ⟨hs, b⟩) (hl : l.length = m.res.length) (h : ∀ k, k < m.res.length → l.getD k 0 = max (a.getD k 0) (b.getD k 0)) : EvOk m ⟨hs, l⟩ := by
  refine ⟨⟨ha.fit.mok, ha.fit.chk, ha.fit.hlen, hl, ha.fit.item⟩, fun k hk => ?_, ?_⟩
  · have h1 := ha.pr k hk
    have h2 := hb.pr k hk
    simp only at h1 h2 ⊢
    rw [h k hk]; omega
  · refine even_congr (fun k hk => ?_) (ha.even.join hb.even)
    unfold qOf
    simp only
    rw [h k hk]; omega

/-! ### another order -/
/-! ### where nobody gains -/
/-! ### without one -/
/-! ### what is paid -/
end Go.Proofs.YtkddkkcfpnndlaaGreatDoor

namespace Go.Proofs.YtkddkkcfpnndlaaGreatDoor
open Go.RowKit Sale

/-- another block is written -/
theorem TwinsOf.other {w : World} {base B : Nat} {vals : List Value} {gs : List Nat} {xss : List (List Int)} (h : TwinsOf w base B vals gs xss) {a : Addr} (ha : a.block ∉ gs) (v : Value) : TwinsOf (w.setCell a v) base B vals gs xss :=
  ⟨h.len, h.nodup, fun x hx => by simpa using h.at' x hx, fun j ys g' hj hg' => by
    obtain ⟨c, h1, h2, h3⟩ := h.row j ys g' hj hg'
    exact ⟨c, h1, h2, Tab.other h3 (fun e => ha (e ▸ List.mem_of_getElem? hg')) _⟩⟩
theorem TwinsOf.rows {w : World} {base B n c : Nat} {vals : List Value} {gs : List Nat} {xss : List (List Int)} (h : TwinsOf w base B vals gs xss) (ht : Tab w B 25 vals) (hn : xss.length = n) (hc : n ≤ c) (hbig : n ≤ 100000)
    (hbd : ∀ xs, xs ∈ xss → xs.length ≤ 100000 ∧ ∀ x, x ∈ xs → -9223372036854775808 ≤ x ∧ x ≤ 9223372036854775807) : Rows w (some ⟨B, 0, none⟩) n c xss :=
  ⟨hn, hc, by omega, fun _ => ⟨_, _, rfl⟩, fun b o e j xs hj => by
    cases e
    have hjn := (List.getElem?_eq_some_iff.1 hj).1
    obtain ⟨g, hg⟩ : ∃ g, gs[j]? = some g := ⟨_, List.getElem?_eq_getElem (by rw [h.len]; exact hjn)⟩
    obtain ⟨c', h1, h2, h3⟩ := h.row j xs g hj hg
    have hb := hbd xs (List.mem_of_getElem? hj)
    exact ⟨_, _, c', by rw [Nat.zero_add]; exact ht.cell h1, h3.ints h2 (by omega) hb.2⟩⟩

/-- a market's twin: five regions of new memory, one behind the other -/
structure TwinMkt (w : World) (base s1 s2 g1 B g3 : Nat) (vals : List Value) (gs : List Nat) (m : Mkt) : Prop where
  res : TabI w g1 m.res
  tab : Tab w B 25 vals
  vlen : vals.length = m.bids.length
  rows : TwinsOf w s1 B vals gs m.bids
  ord : TabI w g3 m.ord
  b1 : base ≤ g1
  l1 : g1 < s1
  bB : s1 ≤ B
  lB : B < s2
  lg : ∀ g, g ∈ gs → g < s2
  l3 : s2 ≤ g3

theorem TwinMkt.below {w w' : World} {base s1 s2 g1 B g3 B' : Nat} {vals : List Value} {gs : List Nat} {m : Mkt} (h : TwinMkt w base s1 s2 g1 B g3 vals gs m) (hb : Below B' w w') (hB : w.heap.size ≤ B') : TwinMkt w' base s1 s2 g1 B g3 vals gs m :=
  ⟨Tab.below h.res hb (by have := Tab.lt h.res; omega), h.tab.below hb (by have := h.tab.lt; omega), h.vlen, h.rows.below hb hB, Tab.below h.ord hb (by have := Tab.lt h.ord; omega), h.b1, h.l1, h.bB, h.lB, h.lg, h.l3⟩

/-- bounds of what a market has, as it is read -/
structure MBd (m : Mkt) : Prop where
  res : m.res.length ≤ 100000 ∧ ∀ x, x ∈ m.res → -9223372036854775808 ≤ x ∧ x ≤ 9223372036854775807
  bids : m.bids.length ≤ 100000 ∧ ∀ xs, xs ∈ m.bids → xs.length ≤ 100000 ∧ ∀ x, x ∈ xs → -9223372036854775808 ≤ x ∧ x ≤ 9223372036854775807
  ord : m.ord.length ≤ 100000 ∧ ∀ x, x ∈ m.ord → -9223372036854775808 ≤ x ∧ x ≤ 9223372036854775807
theorem TwinMkt.mkt {w : World} {base s1 s2 g1 B g3 rn c1 bn cB on c3 : Nat} {vals : List Value} {gs : List Nat} {m : Mkt} (h : TwinMkt w base s1 s2 g1 B g3 vals gs m) (hm : MBd m) (h1 : m.res.length = rn) (h2 : m.bids.length = bn) (h3 : m.ord.length = on) (hc1 : rn ≤ c1) (hcB : bn ≤ cB) (hc3 : on ≤ c3) :
    MktAt w (some ⟨g1, 0, none⟩) (some ⟨B, 0, none⟩) (some ⟨g3, 0, none⟩) rn c1 bn cB on c3 m := by
  have a1 := hm.res.1
  have a3 := hm.ord.1
  refine ⟨?_, h.rows.rows h.tab h2 hcB (by have := hm.bids.1; omega) hm.bids.2, ?_⟩
  · have := TabI.ints h.res (c := c1) (by omega) (by omega) hm.res.2
    rw [h1] at this; exact this
  · have := TabI.ints h.ord (c := c3) (by omega) (by omega) hm.ord.2
    rw [h3] at this; exact this

/-! ### where nobody gains -/
end Go.Proofs.YtkddkkcfpnndlaaGreatDoor

namespace Go.Proofs.YtkddkkcfpnndlaaGreatDoor
open Go.RowKit Go.Shelf Sale

/-- a world behind the call's beginning: the set's box and the function's box -/
structure FarAt (w : World) (B1 B2 : Nat) (la : Option Addr) (ln lc : Nat) (wr : World) : Prop where
  b1 : Boxed wr B1 25 (.slice la ln lc)
  b2 : Boxed wr B2 205 (.func (.func 218) #[] #[.pointer (some ⟨B1, 0, none⟩)])
  below : Below w.heap.size w wr
theorem FarAt.step {w : World} {B1 B2 : Nat} {la : Option Addr} {ln lc : Nat} {wr wr' : World} (h : FarAt w B1 B2 la ln lc wr) (hb : Below wr.heap.size wr wr') : FarAt w B1 B2 la ln lc wr' :=
  ⟨boxed_on h.b1 hb, boxed_on h.b2 hb, h.below.trans (hb.mono h.below.size)⟩
theorem FarAt.upTo {w : World} {B1 B2 B : Nat} {la : Option Addr} {ln lc : Nat} {wr wr' : World} (h : FarAt w B1 B2 la ln lc wr) (hb : Below B wr wr') (h1 : B1 < B) (h2 : B2 < B) (hB : w.heap.size ≤ B) : FarAt w B1 B2 la ln lc wr' :=
  ⟨by have := h.b1; unfold Boxed at *; rw [hb.block B1 h1]; exact this, by have := h.b2; unfold Boxed at *; rw [hb.block B2 h2]; exact this, h.below.trans (hb.mono hB)⟩

end Go.Proofs.YtkddkkcfpnndlaaGreatDoor

namespace Go.Proofs.YtkddkkcfpnndlaaGreatDoor
open Go.RowKit Go.Shelf Sale

/-! ### a list of the call's own that is written -/
structure Wrt (w : World) (g n : Nat) (xs : List Int) : Prop where
  len : xs.length = n
  row : ∃ cur : Array Value, w.heap[g]? = some (.cells cur 3 (0, 0)) ∧ n ≤ cur.size ∧ cur.toList.take n = xs.map (Value.int .i64)
theorem Wrt.lt {w : World} {g n : Nat} {xs : List Int} (h : Wrt w g n xs) : g < w.heap.size := by
  obtain ⟨cur, h1, _⟩ := h.row
  exact (Array.getElem?_eq_some_iff.1 h1).1
theorem Wrt.cell {w : World} {g n : Nat} {xs : List Int} (h : Wrt w g n xs) {k : Nat} {x : Int} (hx : xs[k]? = some x) : w.cell? ⟨g, k, none⟩ = some (.int .i64 x) := by
  obtain ⟨cur, h1, h2, h3⟩ := h.row
  have hk : k < xs.length := (List.getElem?_eq_some_iff.1 hx).1
  rw [cell_of_row w g k cur _ _ h1]
  have h4 : (cur.toList.take n)[k]? = some (.int .i64 x) := by rw [h3]; simp [hx]
  rw [List.getElem?_take_of_lt (by have := h.len; omega)] at h4
  simpa using h4
theorem Wrt.frozen {w : World} {g n : Nat} {xs : List Int} (h : Wrt w g n xs) (k : Nat) : w.frozen? ⟨g, k, none⟩ = false := by
  obtain ⟨cur, h1, _⟩ := h.row
  exact frozen_of_row w g k cur _ h1
theorem Wrt.set {w : World} {g n : Nat} {xs : List Int} (h : Wrt w g n xs) (k : Nat) (x : Int) : Wrt (w.setCell ⟨g, k, none⟩ (.int .i64 x)) g n (xs.set k x) := by
  obtain ⟨cur, h1, h2, h3⟩ := h.row
  refine ⟨by rw [List.length_set]; exact h.len, _, heap_setCell_same w g k _ _ _ h1, by simpa using h2, ?_⟩
  rw [Array.toList_setIfInBounds, List.take_set, h3, List.map_set]
theorem Wrt.below {w w' : World} {g n B : Nat} {xs : List Int} (h : Wrt w g n xs) (hb : Below B w w') (hB : g < B) : Wrt w' g n xs := by
  obtain ⟨cur, h1, h2, h3⟩ := h.row
  exact ⟨h.len, cur, by rw [hb.block g hB]; exact h1, h2, h3⟩
theorem Wrt.ints {w : World} {g n : Nat} {xs : List Int} (h : Wrt w g n xs) {c : Nat} (hc : n ≤ c) (hbig : n ≤ 4611686018427387904) (hbd : ∀ x, x ∈ xs → -9223372036854775808 ≤ x ∧ x ≤ 9223372036854775807) : Ints w (some ⟨g, 0, none⟩) n c xs :=
  ⟨h.len, hc, hbig, fun _ => ⟨_, _, rfl⟩, fun b o e k x hx => by cases e; rw [Nat.zero_add]; exact h.cell hx, hbd, fun e => by cases e⟩
/-! ### what is asked of Few and of far -/
/-! ### the set rises, item by item -/
end Go.Proofs.YtkddkkcfpnndlaaGreatDoor

namespace Go.Proofs.YtkddkkcfpnndlaaGreatDoor
open Go.RowKit Go.Shelf Sale

/-! ### what is read stays where its cells stay -/
theorem Ints.on {w w' : World} {a : Option Addr} {n c : Nat} {xs : List Int} (h : Ints w a n c xs) (hc : ∀ (b o : Nat) (v : Value), w.cell? ⟨b, o, Option.none⟩ = some v → w'.cell? ⟨b, o, Option.none⟩ = some v) : Ints w' a n c xs :=
  ⟨h.len, h.cap, h.big, h.addr, fun b o e k x hx => hc _ _ _ (h.cell b o e k x hx), h.bd, h.nil⟩
theorem Rows.on {w w' : World} {a : Option Addr} {n c : Nat} {xss : List (List Int)} (h : Rows w a n c xss) (hc : ∀ (b o : Nat) (v : Value), w.cell? ⟨b, o, Option.none⟩ = some v → w'.cell? ⟨b, o, Option.none⟩ = some v) : Rows w' a n c xss :=
  ⟨h.len, h.cap, h.big, h.addr, fun b o e k xs hx => by
    obtain ⟨a', n', c', h1, h2⟩ := h.cell b o e k xs hx
    exact ⟨a', n', c', hc _ _ _ h1, h2.on hc⟩⟩
theorem MktAt.on {w w' : World} {ra ba oa : Option Addr} {rn rc bn bc on oc : Nat} {m : Mkt} (h : MktAt w ra ba oa rn rc bn bc on oc m) (hc : ∀ (b o : Nat) (v : Value), w.cell? ⟨b, o, Option.none⟩ = some v → w'.cell? ⟨b, o, Option.none⟩ = some v) : MktAt w' ra ba oa rn rc bn bc on oc m :=
  ⟨h.res.on hc, h.bids.on hc, h.ord.on hc⟩

/-- prices that are handed over -/
structure Pl where
  a : Option Addr
  n : Nat
  c : Nat
  l : List Int
end Go.Proofs.YtkddkkcfpnndlaaGreatDoor

namespace Go.Proofs.YtkddkkcfpnndlaaGreatDoor
open Go.RowKit Sale

/-- an outcome's twin: two regions of new memory, one behind the other -/
structure TwinOut (w : World) (base g1 g2 : Nat) (o : Outc) : Prop where
  has : TabI w g1 o.has
  prices : TabI w g2 o.prices
  b1 : base ≤ g1
  l : g1 < g2
theorem TwinOut.below {w w' : World} {base g1 g2 B' : Nat} {o : Outc} (h : TwinOut w base g1 g2 o) (hb : Below B' w w') (hB : w.heap.size ≤ B') : TwinOut w' base g1 g2 o :=
  ⟨Tab.below h.has hb (by have := Tab.lt h.has; omega), Tab.below h.prices hb (by have := Tab.lt h.prices; omega), h.b1, h.l⟩
theorem TwinOut.step {w w' : World} {base g1 g2 : Nat} {o : Outc} (h : TwinOut w base g1 g2 o) (hb : Below w.heap.size w w') : TwinOut w' base g1 g2 o := h.below hb (Nat.le_refl _)
theorem TwinOut.out {w : World} {base g1 g2 hn c1 pn c2 : Nat} {o : Outc} (h : TwinOut w base g1 g2 o) (h1 : o.has.length = hn) (h2 : o.prices.length = pn) (hc1 : hn ≤ c1) (hc2 : pn ≤ c2) (hl1 : hn ≤ 100000) (hl2 : pn ≤ 100000)
    (hb1 : ∀ x, x ∈ o.has → -9223372036854775808 ≤ x ∧ x ≤ 9223372036854775807) (hb2 : ∀ x, x ∈ o.prices → -9223372036854775808 ≤ x ∧ x ≤ 9223372036854775807) : OutAt w (some ⟨g1, 0, none⟩) (some ⟨g2, 0, none⟩) hn c1 pn c2 o := by
  have a := TabI.ints h.has (c := c1) (by omega) (by omega) hb1
  have b := TabI.ints h.prices (c := c2) (by omega) (by omega) hb2
  rw [h1] at a
  rw [h2] at b
  exact ⟨a, b⟩
end Go.Proofs.YtkddkkcfpnndlaaGreatDoor
