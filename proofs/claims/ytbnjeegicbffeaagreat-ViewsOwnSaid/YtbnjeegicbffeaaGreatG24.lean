/- Prices that rise, as the code reckons them, and in the words of the plain texts. The laws of outcomes in the words of the plain texts. -/
import Derived.Test.YtbnjeegicbffeaaGreatG20
import Derived.Test.YtbnjeegicbffeaaGreatG37
import Derived.Test.YtbnjeegicbffeaaGreatG22
import Derived.Test.YtbnjeegicbffeaaGreatG23
/- Prices that rise, as the code reckons them, and in the words of the plain texts. -/
namespace Go.Proofs.YtbnjeegicbffeaaGreat
open Go.RowKit Sale

def isNone (b prices : List Int) : Bool := (demOf b prices).2 == 0
/-- what is wanted by who must have -/
def wantsM (m : Mkt) (prices : List Int) : List (List Nat) := m.bids.map fun b => if isNone b prices then [] else (demOf b prices).1
def mustM (m : Mkt) (prices : List Int) : List Nat := (List.range m.bids.length).filter fun i => !isNone (m.bids.getD i []) prices
def fewM (m : Mkt) (prices : List Int) : Option (List Nat) := Way.fewOf (nbOf (wantsM m prices)) m.res.length (mustM m prices)
def farM (m : Mkt) (prices : List Int) (X : List Nat) : Int := lmin (farAll m.bids prices (wantsM m prices) X (mustM m prices))
/-- prices, one step higher -/
def upBy (prices : List Int) (X : List Nat) (by' : Int) : List Int := (List.range prices.length).map fun k => if k ∈ X then prices.getD k 0 + by' else prices.getD k 0
def stepL (m : Mkt) (prices : List Int) : Option (List Int) := (fewM m prices).map fun X => upBy prices X (farM m prices X)

theorem upBy_len (prices : List Int) (X : List Nat) (b : Int) : (upBy prices X b).length = prices.length := by simp [upBy]
theorem upBy_get {prices : List Int} {X : List Nat} {b : Int} {k : Nat} (hk : k < prices.length) : (upBy prices X b).getD k 0 = if k ∈ X then prices.getD k 0 + b else prices.getD k 0 := by
  rw [List.getD_eq_getElem?_getD, upBy, List.getElem?_map, List.getElem?_range hk]; rfl
theorem wantsM_len (m : Mkt) (prices : List Int) : (wantsM m prices).length = m.bids.length := by simp [wantsM]

/-- prices that are at hand -/
structure PrOk (m : Mkt) (prices : List Int) : Prop where
  len : prices.length = m.res.length
  bd : ∀ k, k < m.res.length → m.res.getD k 0 ≤ prices.getD k 0 ∧ prices.getD k 0 ≤ 2000000
theorem PrOk.all {m : Mkt} (hm : MOk m) {prices : List Int} (h : PrOk m prices) : ∀ x, x ∈ prices → 0 ≤ x ∧ x ≤ 2000000 := fun x hx => by
  obtain ⟨k, hk⟩ := List.mem_iff_getElem?.1 hx
  have hl : k < prices.length := (List.getElem?_eq_some_iff.1 hk).1
  have h1 := h.bd k (by have := h.len; omega)
  rw [getD_at hk] at h1
  have h2 := hm.res _ (getD_mem (l := m.res) (k := k) (by have := h.len; omega) 0)
  omega
theorem PrOk.nonneg {m : Mkt} {prices : List Int} (h : PrOk m prices) : ∀ k, k < m.res.length → 0 ≤ qOf m prices k := fun k hk => by have := h.bd k hk; unfold qOf; omega

theorem dem_is {m : Mkt} (hm : MOk m) {prices : List Int} (h : PrOk m prices) {i : Nat} (hi : i < m.bids.length) :
    demOf (m.bids.getD i []) prices = (dem (gi (gainsM m)) m.res.length (qOf m prices) i, top (gi (gainsM m)) m.res.length (qOf m prices) i) := by
  refine demOf_is ?_ ?_ ?_
  · rcases hm.bid_at hi with e | e
    · exact .inl e
    · exact .inr e.1
  · intro he k hk
    rw [gain_at hm prices hi hk, if_pos he]
    have := h.nonneg k hk
    omega
  · intro he k hk
    rw [gain_at hm prices hi hk, if_neg he]; rfl
theorem isNone_is {m : Mkt} (hm : MOk m) {prices : List Int} (h : PrOk m prices) {i : Nat} (hi : i < m.bids.length) :
    isNone (m.bids.getD i []) prices = !decide (0 < top (gi (gainsM m)) m.res.length (qOf m prices) i) := by
  unfold isNone
  rw [dem_is hm h hi]
  have := top_nonneg (gi (gainsM m)) m.res.length (qOf m prices) i
  by_cases e : top (gi (gainsM m)) m.res.length (qOf m prices) i = 0
  · simp [e]
  · have h2 : 0 < top (gi (gainsM m)) m.res.length (qOf m prices) i := by omega
    simp [e, h2]
theorem nb_wants {m : Mkt} (hm : MOk m) {prices : List Int} (h : PrOk m prices) {i : Nat} (hi : i < m.bids.length) : nbOf (wantsM m prices) i = wantsOf (gi (gainsM m)) m.res.length (qOf m prices) i := by
  have hb : m.bids[i]? = some (m.bids.getD i []) := by rw [List.getD_eq_getElem?_getD, List.getElem?_eq_getElem hi]; rfl
  unfold nbOf wantsM
  rw [List.getElem?_map, hb]
  show (if isNone (m.bids.getD i []) prices = true then [] else (demOf (m.bids.getD i []) prices).1) = _
  rw [isNone_is hm h hi, dem_is hm h hi]
  unfold wantsOf
  by_cases e : 0 < top (gi (gainsM m)) m.res.length (qOf m prices) i
  · simp [e]
  · simp [e]
theorem mustM_is {m : Mkt} (hm : MOk m) {prices : List Int} (h : PrOk m prices) : mustM m prices = musts (gi (gainsM m)) m.res.length m.bids.length (qOf m prices) := by
  unfold mustM musts
  refine List.filter_congr fun i hi => ?_
  rw [isNone_is hm h (List.mem_range.1 hi), Bool.not_not]
theorem few_congr {nb nb' : Nat → List Nat} {N : Nat} {sm : List Nat} (h : ∀ i, i ∈ sm → nb i = nb' i) : Way.fewOf nb N sm = Way.fewOf nb' N sm := by
  have hw : ∀ X, Sale.within nb sm X = Sale.within nb' sm X := fun X => by
    unfold Sale.within
    exact List.filter_congr fun i hi => by rw [h i hi]
  have hv : Way.viol nb sm = Way.viol nb' sm := funext fun X => by unfold Way.viol; rw [hw]
  unfold Way.fewOf
  rw [hv]
theorem fewM_is {m : Mkt} (hm : MOk m) {prices : List Int} (h : PrOk m prices) : fewM m prices = fewQ (gi (gainsM m)) m.res.length m.bids.length (qOf m prices) := by
  unfold fewM fewQ
  rw [mustM_is hm h]
  exact few_congr fun i hi => nb_wants hm h (mem_musts.1 hi).1
theorem flat_filter {α β : Type} (p : α → Bool) (f : α → List β) : ∀ l : List α, (l.filter p).flatMap f = l.flatMap fun x => if p x then f x else []
  | [] => rfl
  | x :: l => by
    rw [List.filter_cons, List.flatMap_cons, ← flat_filter p f l]
    cases hp : p x <;> simp
theorem flat_congr {α β : Type} {f g : α → List β} : ∀ {l : List α}, (∀ x, x ∈ l → f x = g x) → l.flatMap f = l.flatMap g
  | [], _ => rfl
  | x :: l, h => by
    rw [List.flatMap_cons, List.flatMap_cons, h x List.mem_cons_self, flat_congr fun y hy => h y (List.mem_cons_of_mem _ hy)]
theorem farM_is {m : Mkt} (hm : MOk m) {prices : List Int} (h : PrOk m prices) (X : List Nat) : farM m prices X = farOf (gi (gainsM m)) m.res.length m.bids.length (qOf m prices) X := by
  unfold farM farOf farAll
  congr 1
  rw [show Sale.within (wantsOf (gi (gainsM m)) m.res.length (qOf m prices)) (musts (gi (gainsM m)) m.res.length m.bids.length (qOf m prices)) X = (musts (gi (gainsM m)) m.res.length m.bids.length (qOf m prices)).filter fun i => (wantsOf (gi (gainsM m)) m.res.length (qOf m prices) i).all fun k => X.contains k from rfl, flat_filter, mustM_is hm h]
  refine flat_congr fun i hi => ?_
  obtain ⟨hiM, htop⟩ := mem_musts.1 hi
  have hw : (wantsM m prices).getD i [] = wantsOf (gi (gainsM m)) m.res.length (qOf m prices) i := by rw [← nb_wants hm h hiM]; unfold nbOf; rw [List.getD_eq_getElem?_getD]
  have hd : wantsOf (gi (gainsM m)) m.res.length (qOf m prices) i = dem (gi (gainsM m)) m.res.length (qOf m prices) i := by unfold wantsOf; rw [if_pos htop]
  unfold farRow
  rw [hw]
  by_cases hal : ((wantsOf (gi (gainsM m)) m.res.length (qOf m prices) i).all fun k => X.contains k) = true
  · rw [if_pos hal, if_neg (by
      rw [Bool.not_eq_true, List.any_eq_false]
      intro k hk
      have := List.all_eq_true.1 hal k hk
      rw [this]; simp)]
    have hne : m.bids.getD i [] ≠ [] := fun e => by
      have : top (gi (gainsM m)) m.res.length (qOf m prices) i = 0 := top_eq (Int.le_refl _) (fun k hk => by rw [gain_at hm prices hiM hk, if_pos e]; have := h.nonneg k hk; omega) (.inl rfl)
      omega
    have hgn : ∀ k, k < m.res.length → gnOf m.bids prices i k = gi (gainsM m) i k - qOf m prices k := fun k hk => by rw [gain_at hm prices hiM hk, if_neg hne]; rfl
    have hdne : dem (gi (gainsM m)) m.res.length (qOf m prices) i ≠ [] := fun e => by
      rcases top_cases (gi (gainsM m)) m.res.length (qOf m prices) i with h0 | ⟨k, hk, h0⟩
      · omega
      · have : k ∈ dem (gi (gainsM m)) m.res.length (qOf m prices) i := mem_dem.2 ⟨hk, h0.symm⟩
        rw [e] at this; cases this
    have h0 : gnOf m.bids prices i ((wantsOf (gi (gainsM m)) m.res.length (qOf m prices) i).getD 0 0) = top (gi (gainsM m)) m.res.length (qOf m prices) i := by
      rw [hd]
      obtain ⟨k, hk⟩ : ∃ k, (dem (gi (gainsM m)) m.res.length (qOf m prices) i)[0]? = some k := ⟨_, List.getElem?_eq_getElem (List.length_pos_iff.2 hdne)⟩
      rw [List.getD_eq_getElem?_getD, hk, Option.getD_some]
      obtain ⟨h1, h2⟩ := mem_dem.1 (List.mem_of_getElem? hk)
      rw [hgn k h1, h2]
    unfold farL
    rw [h0, h.len]
    congr 1
    refine List.map_congr_left fun k hk => ?_
    rw [hgn k (List.mem_range.1 (List.mem_filter.1 hk).1)]
  · rw [if_neg hal, if_pos (by
      rw [List.any_eq_true]
      rw [List.all_eq_true] at hal
      simp only [Classical.not_forall] at hal
      obtain ⟨k, hk, hc⟩ := hal
      exact ⟨k, hk, by simpa using hc⟩)]

/-- a step is the plain text's step -/
theorem stepL_none {m : Mkt} (hm : MOk m) {prices : List Int} (h : PrOk m prices) : stepL m prices = none ↔ stepQ (gi (gainsM m)) m.res.length m.bids.length (qOf m prices) = none := by
  unfold stepL stepQ
  rw [fewM_is hm h]
  simp
theorem stepL_some {m : Mkt} (hm : MOk m) {prices p' : List Int} (h : PrOk m prices) (hs : stepL m prices = some p') : p'.length = m.res.length ∧ ∃ q', stepQ (gi (gainsM m)) m.res.length m.bids.length (qOf m prices) = some q' ∧ ∀ k, k < m.res.length → q' k = qOf m p' k := by
  unfold stepL at hs
  rw [fewM_is hm h] at hs
  obtain ⟨X, hX, rfl⟩ := Option.map_eq_some_iff.1 hs
  refine ⟨by rw [upBy_len]; exact h.len, _, by unfold stepQ; rw [hX]; rfl, fun k hk => ?_⟩
  have e : qOf m (upBy prices X (farM m prices X)) k = if k ∈ X then prices.getD k 0 + farM m prices X - m.res.getD k 0 else prices.getD k 0 - m.res.getD k 0 := by
    unfold qOf
    rw [upBy_get (by have := h.len; omega)]
    split <;> rfl
  rw [e, farM_is hm h]
  show (if k ∈ X then qOf m prices k + _ else qOf m prices k) = _
  unfold qOf
  split <;> omega

/-- prices on the way -/
structure OnWay (m : Mkt) (prices : List Int) : Prop where
  len : prices.length = m.res.length
  ris : Rising (gi (gainsM m)) m.res.length m.bids.length (qOf m prices)
theorem OnWay.pr {m : Mkt} (hm : MOk m) {prices : List Int} (h : OnWay m prices) : PrOk m prices :=
  ⟨h.len, fun k hk => by
    have h1 := h.ris.nonneg k hk
    have h2 := h.ris.bd (B := 1000000) (by omega) (fun i _ k _ => (hm.bd i k).2) k hk
    have h3 := hm.res _ (getD_mem (l := m.res) hk 0)
    unfold qOf at h1 h2
    omega⟩
theorem OnWay.start {m : Mkt} : OnWay m m.res :=
  ⟨rfl, (Rising.start (gi (gainsM m)) m.res.length m.bids.length).congr fun k _ => by unfold qOf; omega⟩
theorem OnWay.step {m : Mkt} (hm : MOk m) {prices p' : List Int} (h : OnWay m prices) (hs : stepL m prices = some p') : OnWay m p' := by
  obtain ⟨hl, q', hq, he⟩ := stepL_some hm (h.pr hm) hs
  exact ⟨hl, (h.ris.step hq).congr he⟩
theorem OnWay.up {m : Mkt} (hm : MOk m) {prices p' : List Int} (h : OnWay m prices) (hs : stepL m prices = some p') : sumN (qOf m prices) m.res.length + 1 ≤ sumN (qOf m p') m.res.length := by
  obtain ⟨hl, q', hq, he⟩ := stepL_some hm (h.pr hm) hs
  rw [← sumN_congr he]
  exact (step_up hq).2
theorem OnWay.sum {m : Mkt} (hm : MOk m) {prices : List Int} (h : OnWay m prices) : 0 ≤ sumN (qOf m prices) m.res.length ∧ sumN (qOf m prices) m.res.length ≤ 8000000 := by
  refine ⟨sumN_nonneg h.ris.nonneg, ?_⟩
  have h2 : ∀ k, k < m.res.length → qOf m prices k ≤ (fun _ : Nat => (1000000 : Int)) k := h.ris.bd (B := 1000000) (by omega) (fun i _ k _ => (hm.bd i k).2)
  have h3 := sumN_le h2
  have h4 : ∀ n : Nat, sumN (fun _ : Nat => (1000000 : Int)) n = 1000000 * (n : Int) := fun n => by
    induction n with
    | zero => rfl
    | succ n ih => simp only [sumN, ih]; omega
  rw [h4] at h3
  have := hm.n8
  omega

/-- the prices, step by step, from some on -/
def riseL (m : Mkt) : Nat → List Int → List Int
  | 0, p => p
  | n + 1, p => match stepL m p with | none => p | some p' => riseL m n p'
theorem riseL_stop {m : Mkt} : ∀ (n : Nat) (p : List Int), stepL m (riseL m n p) = none → ∀ n', n ≤ n' → riseL m n' p = riseL m n p
  | 0, p, h, 0, _ => rfl
  | 0, p, h, n' + 1, _ => by
    have h2 : stepL m p = none := h
    show (match stepL m p with | none => p | some p' => riseL m n' p') = p
    rw [h2]
  | n + 1, p, h, 0, hn => by omega
  | n + 1, p, h, n' + 1, hn => by
    show (match stepL m p with | none => p | some p' => riseL m n' p') = (match stepL m p with | none => p | some p' => riseL m n p')
    cases hs : stepL m p with
    | none => rfl
    | some p' =>
      have e : riseL m (n + 1) p = riseL m n p' := by show (match stepL m p with | none => p | some p' => riseL m n p') = _; rw [hs]
      rw [e] at h
      exact riseL_stop n p' h n' (by omega)
/-- the least prices -/
def leastM (m : Mkt) : List Int := riseL m 8000001 m.res
theorem leastM_at {m : Mkt} (n : Nat) (hn : n ≤ 8000001) (h : stepL m (riseL m n m.res) = none) : leastM m = riseL m n m.res := riseL_stop n m.res h _ hn
theorem riseL_more {m : Mkt} : ∀ (n : Nat) (p : List Int), riseL m (n + 1) p = match stepL m (riseL m n p) with | none => riseL m n p | some p' => p'
  | 0, p => by
    show (match stepL m p with | none => p | some p' => p') = (match stepL m p with | none => p | some p' => p'); rfl
  | n + 1, p => by
    show (match stepL m p with | none => p | some p' => riseL m (n + 1) p') = _
    cases hs : stepL m p with
    | none =>
      have e : riseL m (n + 1) p = p := by show (match stepL m p with | none => p | some p' => riseL m n p') = p; rw [hs]
      rw [e, hs]
    | some p' =>
      have e : riseL m (n + 1) p = riseL m n p' := by show (match stepL m p with | none => p | some p' => riseL m n p') = _; rw [hs]
      rw [e]
      exact riseL_more n p'
theorem riseL_on {m : Mkt} (hm : MOk m) : ∀ n, OnWay m (riseL m n m.res) ∧ ((∃ n', n' < n ∧ stepL m (riseL m n' m.res) = none) ∨ (n : Int) ≤ sumN (qOf m (riseL m n m.res)) m.res.length)
  | 0 => ⟨OnWay.start, .inr (OnWay.start (m := m).sum hm).1⟩
  | n + 1 => by
    obtain ⟨h1, h2⟩ := riseL_on hm n
    have e := riseL_more (m := m) n m.res
    cases hs : stepL m (riseL m n m.res) with
    | none =>
      rw [hs] at e
      exact ⟨by rw [e]; exact h1, .inl ⟨n, by omega, hs⟩⟩
    | some p' =>
      rw [hs] at e
      have e : riseL m (n + 1) m.res = p' := e
      rw [e]
      refine ⟨h1.step hm hs, ?_⟩
      rcases h2 with ⟨n', hn, h⟩ | h2
      · exact .inl ⟨n', by omega, h⟩
      · have := h1.up hm hs
        exact .inr (by omega)
theorem leastM_stop {m : Mkt} (hm : MOk m) : stepL m (leastM m) = none := by
  obtain ⟨h1, h2⟩ := riseL_on hm 8000001
  rcases h2 with ⟨n', hn, h⟩ | h2
  · have e : leastM m = riseL m n' m.res := leastM_at n' (by omega) h
    rw [e]; exact h
  · have := (h1.sum hm).2
    omega
theorem leastM_on {m : Mkt} (hm : MOk m) : OnWay m (leastM m) := (riseL_on hm _).1
/-- a way that has come to its end -/
theorem leastM_end {m : Mkt} (hm : MOk m) {n : Nat} (h : stepL m (riseL m n m.res) = none) : leastM m = riseL m n m.res := by
  rcases Nat.le_total n 8000001 with h1 | h1
  · exact leastM_at n h1 h
  · exact (riseL_stop 8000001 m.res (leastM_stop hm) n h1).symm

/-- what is known of the least prices -/
structure LeastOk (m : Mkt) (p : List Int) : Prop where
  pr : PrOk m p
  low : Lowest (gi (gainsM m)) m.res.length m.bids.length (qOf m p)
  cover : Cover (gi (gainsM m)) m.res.length m.bids.length (qOf m p)
theorem MOk.least {m : Mkt} (hm : MOk m) : LeastOk m (leastM m) :=
  ⟨(leastM_on hm).pr hm, (leastM_on hm).ris.low, step_none hm.n8 ((stepL_none hm ((leastM_on hm).pr hm)).1 (leastM_stop hm))⟩

/-- the market's outcome -/
def outM (m : Mkt) : Outc := ⟨hasM m, leastM m⟩
theorem MOk.outEven {m : Mkt} (hm : MOk m) (hc : mcheck m = true) : EvOk m (outM m) := by
  have hl := hm.least
  refine ⟨⟨hm, hc, hasM_length m, hl.pr.len, fun x hx => ?_⟩, hl.pr.bd, ?_⟩
  · have h1 := hasM_ge m x hx
    refine ⟨h1, ?_⟩
    rcases Int.lt_or_le x 0 with h | h
    · have := hm.n1; omega
    · obtain ⟨i, hi⟩ := List.mem_iff_getElem?.1 hx
      obtain ⟨k, rfl, hk, _⟩ := hm.item hi (by omega)
      omega
  · exact hm.first.even hm.ordN.2 hl.low (fun k hk => hl.pr.nonneg k hk) hl.cover
end Go.Proofs.YtbnjeegicbffeaaGreat

/- The laws of outcomes in the words of the plain texts. -/
namespace Go.Proofs.YtbnjeegicbffeaaGreat
open Go.RowKit Sale

theorem even_congr {g : Nat → Nat → Int} {N M : Nat} {q q' : Nat → Int} {m : Nat → Option Nat} (h : ∀ k, k < N → q k = q' k) (he : Even g N M q m) : Even g N M q' m := by
  have hs : ∀ i, i < M → sur g q m i = sur g q' m i := fun i hi => by
    cases hm : m i with
    | none => rw [sur_none hm, sur_none hm]
    | some k => rw [sur_some hm, sur_some hm, h k (he.inj.lt i hi k hm)]
  exact ⟨fun k hk => by rw [← h k hk]; exact he.nonneg k hk, he.inj, fun i hi => by rw [← hs i hi]; exact he.zero i hi, fun i hi k hk => by rw [← h k hk, ← hs i hi]; exact he.best i hi k hk, fun k hk hp => he.sold k hk (by rw [h k hk]; exact hp)⟩

/-! ### no price is lower -/
theorem EvOk.low {m : Mkt} {o : Outc} (h : EvOk m o) {k : Nat} (hk : k < m.res.length) : (leastM m).getD k 0 ≤ o.prices.getD k 0 := by
  have := h.fit.mok.least.low (qOf m o.prices) h.even.nonneg h.even.valid.cover k hk
  unfold qOf at this
  omega
theorem EvOk.most {m : Mkt} {o : Outc} (h : EvOk m o) : total (gi (gainsM m)) (slotOf o.has) (List.range m.bids.length) = opt (gi (gainsM m)) m.res.length (List.range m.bids.length) (fun _ => true) := h.even.opt
theorem EvOk.withLeast {m : Mkt} {o : Outc} (h : EvOk m o) : EvOk m ⟨o.has, leastM m⟩ := by
  have hm := h.fit.mok
  have h2 := hm.outEven h.fit.chk
  refine ⟨⟨hm, h.fit.chk, h.fit.hlen, h2.fit.plen, h.fit.item⟩, h2.pr, ?_⟩
  exact (h2.even.other h.even.inj (by rw [h.most, h2.even.opt]; exact Int.le_refl _)).1
theorem EvOk.withHas {m : Mkt} {o : Outc} (h : EvOk m o) : EvOk m ⟨hasM m, o.prices⟩ := by
  have hm := h.fit.mok
  have h2 := hm.outEven h.fit.chk
  refine ⟨⟨hm, h.fit.chk, h2.fit.hlen, h.fit.plen, h2.fit.item⟩, h.pr, ?_⟩
  exact (h.even.other h2.even.inj (by rw [h.most, h2.even.opt]; exact Int.le_refl _)).1

/-! ### of two the lesser and the greater ones -/
theorem EvOk.meet {m : Mkt} {hs a b l : List Int} (ha : EvOk m ⟨hs, a⟩) (hb : EvOk m ⟨hs, b⟩) (hl : l.length = m.res.length) (h : ∀ k, k < m.res.length → l.getD k 0 = min (a.getD k 0) (b.getD k 0)) : EvOk m ⟨hs, l⟩ := by
  refine ⟨⟨ha.fit.mok, ha.fit.chk, ha.fit.hlen, hl, ha.fit.item⟩, fun k hk => ?_, ?_⟩
  · have h1 := ha.pr k hk
    have h2 := hb.pr k hk
    simp only at h1 h2 ⊢
    rw [h k hk]; omega
  · refine even_congr (fun k hk => ?_) (ha.even.meet hb.even)
    unfold qOf
    simp only
    rw [h k hk]; omega
theorem EvOk.join {m : Mkt} {hs a b l : List Int} (ha : EvOk m ⟨hs, a⟩) (hb : EvOk m ⟨hs, b⟩) (hl : l.length = m.res.length) (h : ∀ k, k < m.res.length → l.getD k 0 = max (a.getD k 0) (b.getD k 0)) : EvOk m ⟨hs, l⟩ := by
  refine ⟨⟨ha.fit.mok, ha.fit.chk, ha.fit.hlen, hl, ha.fit.item⟩, fun k hk => ?_, ?_⟩
  · have h1 := ha.pr k hk
    have h2 := hb.pr k hk
    simp only at h1 h2 ⊢
    rw [h k hk]; omega
  · refine even_congr (fun k hk => ?_) (ha.even.join hb.even)
    unfold qOf
    simp only
    rw [h k hk]; omega

/-! ### another order -/
theorem stepL_ord (r : List Int) (b : List (List Int)) (o o' : List Int) (p : List Int) : stepL ⟨r, b, o⟩ p = stepL ⟨r, b, o'⟩ p := rfl
theorem riseL_ord (r : List Int) (b : List (List Int)) (o o' : List Int) : ∀ (n : Nat) (p : List Int), riseL ⟨r, b, o⟩ n p = riseL ⟨r, b, o'⟩ n p
  | 0, _ => rfl
  | n + 1, p => by
    show (match stepL ⟨r, b, o⟩ p with | none => p | some p' => riseL ⟨r, b, o⟩ n p') = (match stepL ⟨r, b, o'⟩ p with | none => p | some p' => riseL ⟨r, b, o'⟩ n p')
    rw [stepL_ord r b o o']
    cases stepL ⟨r, b, o'⟩ p with
    | none => rfl
    | some p' => exact riseL_ord r b o o' n p'
theorem leastM_ord (r : List Int) (b : List (List Int)) (o o' : List Int) : leastM ⟨r, b, o⟩ = leastM ⟨r, b, o'⟩ := riseL_ord r b o o' _ _
/-- what each has by it is the same -/
theorem sur_ord {r : List Int} {b : List (List Int)} {o o' : List Int} (h : mcheck ⟨r, b, o⟩ = true) (h' : mcheck ⟨r, b, o'⟩ = true) {i : Nat} (hi : i < b.length) :
    sur (gi (gainsM ⟨r, b, o⟩)) (qOf ⟨r, b, o⟩ (leastM ⟨r, b, o⟩)) (slotOf (hasM ⟨r, b, o⟩)) i = sur (gi (gainsM ⟨r, b, o⟩)) (qOf ⟨r, b, o⟩ (leastM ⟨r, b, o⟩)) (slotOf (hasM ⟨r, b, o'⟩)) i := by
  have e1 := (mcheck_ok h).outEven h
  have e2 := (mcheck_ok h').outEven h'
  have e3 : Even (gi (gainsM ⟨r, b, o⟩)) r.length b.length (qOf ⟨r, b, o⟩ (leastM ⟨r, b, o⟩)) (slotOf (hasM ⟨r, b, o'⟩)) := by
    have := e2.even
    rw [show (outM ⟨r, b, o'⟩).prices = leastM ⟨r, b, o⟩ from leastM_ord r b o' o] at this
    exact this
  exact e1.even.sur_eq e3 hi
/-- who stands first has an item, if it has one by any order, and none behind that -/
theorem first_ord {r : List Int} {b : List (List Int)} {o o' : List Int} (h : mcheck ⟨r, b, o⟩ = true) (h' : mcheck ⟨r, b, o'⟩ = true) {who : Nat} (hw : o'[0]? = some (who : Int)) :
    ∀ k, slotOf (hasM ⟨r, b, o⟩) who = some k → ∃ k', slotOf (hasM ⟨r, b, o'⟩) who = some k' ∧ k' ≤ k := by
  intro k hk
  have hm := mcheck_ok h
  have hm' := mcheck_ok h'
  obtain ⟨hord, hperm⟩ := hm'.ordN
  have hls : (ordN ⟨r, b, o'⟩)[0]? = some who := by
    unfold ordN
    rw [List.getElem?_map]
    show (o'[0]?).map Int.toNat = some who
    rw [hw]; simp
  have hf : Fits (gi (gainsM ⟨r, b, o'⟩)) r.length (ordN ⟨r, b, o'⟩) (fun _ => true) (slotOf (hasM ⟨r, b, o⟩)) := hm.fits.perm hperm.symm
  have ht : total (gi (gainsM ⟨r, b, o'⟩)) (slotOf (hasM ⟨r, b, o⟩)) (ordN ⟨r, b, o'⟩) = opt (gi (gainsM ⟨r, b, o'⟩)) r.length (ordN ⟨r, b, o'⟩) (fun _ => true) := by
    rw [total_perm hperm, opt_perm hm'.first.nodup hperm]
    exact hm.best
  have ha := hm'.first.ahead hf ht
  obtain ⟨ls, e⟩ : ∃ ls, ordN ⟨r, b, o'⟩ = who :: ls := by
    cases hh : ordN ⟨r, b, o'⟩ with
    | nil => rw [hh] at hls; simp at hls
    | cons x ls => rw [hh] at hls; simp at hls; exact ⟨ls, by rw [hls]⟩
  rw [e, List.map_cons, List.map_cons, hk] at ha
  cases hs : slotOf (hasM ⟨r, b, o'⟩) who with
  | none => rw [hs] at ha; exact ha.elim
  | some k' =>
    rw [hs] at ha
    refine ⟨k', rfl, ?_⟩
    rcases ha with h | ⟨h, _⟩ <;> omega

/-! ### where nobody gains -/
theorem list_ext0 {l l' : List Int} (hl : l.length = l'.length) (h : ∀ k, k < l.length → l.getD k 0 = l'.getD k 0) : l = l' := by
  apply List.ext_getElem? 
  intro k
  by_cases hk : k < l.length
  · rw [getD_some hk 0, getD_some (l := l') (by omega) 0, h k hk]
  · rw [List.getElem?_eq_none (by omega), List.getElem?_eq_none (by omega)]
theorem least_zero {m : Mkt} (hm : MOk m) (h : ∀ i, i < m.bids.length → ∀ k, k < m.res.length → gi (gainsM m) i k < 0) : leastM m = m.res := by
  have hl := hm.least
  refine list_ext0 hl.pr.len fun k hk => ?_
  have := Lowest.zero hl.pr.nonneg hl.low (fun i hi k hk => by have := h i hi k hk; omega) k (by have := hl.pr.len; omega)
  unfold qOf at this
  omega
theorem has_zero {m : Mkt} (hm : MOk m) (h : ∀ i, i < m.bids.length → ∀ k, k < m.res.length → gi (gainsM m) i k < 0) : ∀ x, x ∈ hasM m → x = -1 := fun x hx => by
  obtain ⟨i, hi⟩ := List.mem_iff_getElem?.1 hx
  have hil : i < m.bids.length := by rw [← hasM_length]; exact (List.getElem?_eq_some_iff.1 hi).1
  by_cases hne : x = -1
  · exact hne
  · obtain ⟨k, rfl, hk, _, hg⟩ := hm.item hi hne
    have := h i hil k hk
    omega
theorem all_none {l l' : List Int} (hl : l.length = l'.length) (h : ∀ x, x ∈ l → x = -1) (h' : ∀ x, x ∈ l' → x = -1) : l = l' :=
  list_ext0 hl fun k hk => by rw [h _ (getD_mem hk 0), h' _ (getD_mem (l := l') (by omega) 0)]

/-! ### without one -/
theorem top_g {g g' : Nat → Nat → Int} {N : Nat} {q : Nat → Int} {i : Nat} (h : ∀ k, k < N → g i k = g' i k) : top g N q i = top g' N q i := by
  refine top_eq (top_nonneg _ _ _ _) (fun k hk => by rw [h k hk]; exact top_ge hk) ?_
  rcases top_cases g' N q i with e | ⟨k, hk, e⟩
  · exact .inl e
  · exact .inr ⟨k, hk, by rw [e, h k hk]⟩
theorem dem_g {g g' : Nat → Nat → Int} {N : Nat} {q : Nat → Int} {i : Nat} (h : ∀ k, k < N → g i k = g' i k) : dem g N q i = dem g' N q i := by
  unfold dem
  refine List.filter_congr fun k hk => ?_
  rw [h k (List.mem_range.1 hk), top_g h]
theorem cover_g {g g' : Nat → Nat → Int} {N M : Nat} {q : Nat → Int} (h : ∀ i, i < M → ∀ k, k < N → g i k = g' i k) (hc : Cover g N M q) : Cover g' N M q := by
  obtain ⟨m, h1, h2⟩ := hc
  exact ⟨m, h1, fun i hi hp => by rw [← top_g (h i hi)] at hp; rw [← dem_g (h i hi)]; exact h2 i hi hp⟩
theorem lowest_g {g g' : Nat → Nat → Int} {N M : Nat} {q : Nat → Int} (h : ∀ i, i < M → ∀ k, k < N → g i k = g' i k) (hl : Lowest g N M q) : Lowest g' N M q :=
  fun q' hq hc => hl q' hq (cover_g (fun i hi k hk => (h i hi k hk).symm) hc)
theorem gone_prices {m : Mkt} (hm : MOk m) (hc : mcheck m = true) (i0 : Nat) {k : Nat} (hk : k < m.res.length) : (leastM (withoutM m i0)).getD k 0 ≤ (leastM m).getD k 0 := by
  have h1 := (hm.without i0).least.low
  rw [withoutM_length] at h1
  have h2 : Lowest (wipe (gi (gainsM m)) i0) m.res.length m.bids.length (qOf m (leastM (withoutM m i0))) := lowest_g (fun i hi k hk => gi_without hi hk) h1
  have := Lowest.less (hm.outEven hc).even hm.least.low i0 h2 k hk
  have e : qOf m (outM m).prices k = (leastM m).getD k 0 - m.res.getD k 0 := rfl
  rw [e] at this
  unfold qOf at this
  omega
theorem gone_has {m : Mkt} (hm : MOk m) {i0 : Nat} (_hi : i0 < m.bids.length) (hn : (hasM m)[i0]? = some (-1)) : hasM (withoutM m i0) = hasM m := by
  have h1 := hm.first.gone (i0 := i0) (by rw [slot_of hn, if_pos rfl])
  have h2 := (hm.without i0).first
  have e : firsts (gi (gainsM (withoutM m i0))) m.res.length (ordN m) (fun _ => true) = firsts (wipe (gi (gainsM m)) i0) m.res.length (ordN m) (fun _ => true) :=
    firsts_alike fun l hl r hr => by
      have hlM : l < m.bids.length := List.mem_range.1 (hm.ordN.2.mem_iff.1 hl)
      rw [gi_without hlM hr]
      exact ⟨Iff.rfl, fun _ _ => rfl⟩
  have h3 : IsFirst (wipe (gi (gainsM m)) i0) m.res.length (ordN m) (slotOf (hasM (withoutM m i0))) := ⟨h2.eq.trans e, h2.nodup⟩
  have hs := h3.same h1
  have hl : (hasM (withoutM m i0)).length = (hasM m).length := by rw [hasM_length, hasM_length, withoutM_length]
  refine list_ext0 hl fun k hk => ?_
  have hkM : k < m.bids.length := by rw [hasM_length, withoutM_length] at hk; exact hk
  have := hs k (hm.ordN.2.mem_iff.2 (List.mem_range.2 hkM))
  have a := slot_of (getD_some (l := hasM (withoutM m i0)) hk 0)
  have b := slot_of (getD_some (l := hasM m) (k := k) (by omega) 0)
  have a1 := hasM_ge _ _ (getD_mem (l := hasM (withoutM m i0)) hk 0)
  have b1 := hasM_ge _ _ (getD_mem (l := hasM m) (k := k) (by omega) 0)
  rw [a, b] at this
  by_cases ea : (hasM (withoutM m i0)).getD k 0 = -1
  · by_cases eb : (hasM m).getD k 0 = -1
    · omega
    · rw [if_pos ea, if_neg eb] at this; cases this
  · by_cases eb : (hasM m).getD k 0 = -1
    · rw [if_neg ea, if_pos eb] at this; cases this
    · rw [if_neg ea, if_neg eb] at this
      have := Option.some.inj this
      omega

/-! ### what is paid -/
theorem pay_is {m : Mkt} (hm : MOk m) (hc : mcheck m = true) {i k : Nat} (hi : i < m.bids.length) (hs : slotOf (hasM m) i = some k) : m.res.getD k 0 + lostM m i = (leastM m).getD k 0 := by
  have he := (hm.outEven hc).even
  have h1 := he.price hm.least.low hi
  have h2 : lostM m i = lostBy (gi (gainsM m)) m.res.length m.bids.length (slotOf (hasM m)) i := lostM_is hm hi
  unfold lostBy at h2
  rw [h1, others_eq hi] at h2
  have h3 : sur (gi (gainsM m)) (qOf m (outM m).prices) (slotOf (outM m).has) i = gi (gainsM m) i k - qOf m (leastM m) k := sur_some hs
  have h4 : gain (gi (gainsM m)) (slotOf (hasM m)) i = gi (gainsM m) i k := by unfold gain; rw [hs]
  rw [h3, h4] at h2
  have h5 : total (gi (gainsM m)) (slotOf (outM m).has) (List.range m.bids.length) = total (gi (gainsM m)) (slotOf (hasM m)) (List.range m.bids.length) := rfl
  rw [h5] at h2
  unfold qOf at h2
  omega
end Go.Proofs.YtbnjeegicbffeaaGreat
