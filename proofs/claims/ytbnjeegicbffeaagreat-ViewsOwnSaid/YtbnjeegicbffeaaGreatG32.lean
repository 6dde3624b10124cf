/- Forests in plain words: what the code's reasons say of a wood; what is found. Reasons and least prices, in the words of the plain texts. -/
import Derived.Test.YtbnjeegicbffeaaGreatG31
import Derived.Test.YtbnjeegicbffeaaGreatG06
import Derived.Test.YtbnjeegicbffeaaGreatG24
/- Forests in plain words: what the code's reasons say of a wood; what is found. -/
namespace Go.Proofs.YtbnjeegicbffeaaGreat
open Go.RowKit Sale Tree

def nowOf (o : Outc) (i : Nat) : Option Nat := if o.has.getD i (-1) = -1 then none else some (o.has.getD i (-1)).toNat
def woodOf (m : Mkt) (o : Outc) : Wood := { N := o.prices.length, M := o.has.length, res := resB m o, now := nowOf o, well := fun i j => wellB m o i j }
theorem FitOk.now {m : Mkt} {o : Outc} (h : FitOk m o) : ∀ i k, (woodOf m o).now i = some k → k < (woodOf m o).N := by
  intro i k hk
  have hk' : nowOf o i = some k := hk
  unfold nowOf at hk'
  split at hk'
  · cases hk'
  · rename_i hne
    cases hk'
    show (o.has.getD i (-1)).toNat < o.prices.length
    cases hx : o.has[i]? with
    | none => exact absurd (by rw [List.getD_eq_getElem?_getD, hx]; rfl) hne
    | some x =>
      rw [getD_at hx] at hne ⊢
      have := h.item x (List.mem_of_getElem? hx)
      have := h.plen
      omega
theorem check_says {m : Mkt} {o : Outc} {l : List (Int × Int)} (h : checkB m o l = true) : FitOk m o ∧ l.length = o.prices.length ∧ Says (woodOf m o) wrap64 (fun j => (l.getD j (0, 0)).1) (fun j => (l.getD j (0, 0)).2) := by
  simp only [checkB, Bool.and_eq_true, decide_eq_true_eq] at h
  obtain ⟨h1, h2, h3⟩ := h
  have hf := ofitsB_ok h1
  refine ⟨hf, h2, ⟨fun j hj hr => ?_, fun j hj hr => ?_⟩⟩
  · have hj' : j < l.length := by rw [h2]; exact hj
    have hok := List.all_eq_true.1 h3 j (List.mem_range.2 hj')
    unfold okWhy at hok
    rw [if_pos (show resB m o j = true from hr)] at hok
    have := eq_of_beq hok
    exact ⟨congrArg Prod.fst this, congrArg Prod.snd this⟩
  · have hj' : j < l.length := by rw [h2]; exact hj
    have hok := List.all_eq_true.1 h3 j (List.mem_range.2 hj')
    unfold okWhy at hok
    rw [if_neg (show ¬ resB m o j = true by rw [show resB m o j = false from hr]; decide)] at hok
    simp only [Bool.and_eq_true, decide_eq_true_eq] at hok
    obtain ⟨⟨p0, p1⟩, p2, p3⟩ := hok
    refine ⟨(l.getD j (0, 0)).1.toNat, by omega, by show _ < o.has.length; omega, p2, ?_⟩
    have p3' := eq_of_beq p3
    show (l.getD j (0, 0)).2 = match nowOf o (l.getD j (0, 0)).1.toNat with | none => 1 | some k => wrap64 (1 + (l.getD k (0, 0)).2)
    rw [p3']
    unfold rankOf nowOf
    split <;> rfl

/-- what is found: an item's reason, or none as it is made -/
def outL (n : Nat) (s : Sta) : List (Int × Int) := (List.range n).map fun j => match s j with | some p => (p.1, (p.2 : Int)) | none => (-1, 0)
theorem outL_get {n : Nat} {s : Sta} {j : Nat} (hj : j < n) : (outL n s)[j]? = some (match s j with | some p => (p.1, (p.2 : Int)) | none => (-1, 0)) := by simp [outL, hj]
theorem outL_length (n : Nat) (s : Sta) : (outL n s).length = n := by simp [outL]
/-- all have a reason -/
def allB (W : Wood) : Bool := (List.range W.N).all fun j => (lv W W.N j).isSome
theorem all_of {W : Wood} {n : Nat} (hnow : ∀ i k, W.now i = some k → k < W.N) (h : ∀ j, j < W.N → ∃ x, lv W n j = some x) : allB W = true ∧ ∀ j, j < W.N → lv W W.N j = lv W n j := by
  have key : ∀ j, j < W.N → lv W W.N j = lv W n j := fun j hj => by
    obtain ⟨⟨b, r⟩, hx⟩ := h j hj
    rw [hx]
    exact lv_keep (lv_at hx) (lv_most hnow hj hx)
  refine ⟨List.all_eq_true.2 fun j hj => ?_, key⟩
  have hj' := List.mem_range.1 hj
  obtain ⟨x, hx⟩ := h j hj'
  rw [key j hj', hx]; rfl
theorem none_of {W : Wood} {n : Nat} (hnow : ∀ i k, W.now i = some k → k < W.N) (hst : ∀ j, j < W.N → lv W (n + 1) j = lv W n j) {j : Nat} (hj : j < W.N) (hn : lv W n j = none) : allB W = false := by
  have h1 : lv W W.N j = none := by
    rcases Nat.lt_or_ge W.N n with h | h
    · cases hx : lv W W.N j with
      | none => rfl
      | some x => rw [lv_keep hx (Nat.le_of_lt h)] at hn; cases hn
    · rw [lv_still hst hnow _ h j hj, hn]
  unfold allB
  rw [List.all_eq_false]
  exact ⟨j, List.mem_range.2 hj, by rw [h1]; simp⟩
end Go.Proofs.YtbnjeegicbffeaaGreat

/- Reasons and least prices, in the words of the plain texts. -/
namespace Go.Proofs.YtbnjeegicbffeaaGreat
open Go.RowKit Sale Tree

theorem now_slot {m : Mkt} {o : Outc} {i : Nat} (hl : o.has.length = m.bids.length) (hi : i < m.bids.length) : nowOf o i = slotOf o.has i := by
  rw [slot_of (getD_some (l := o.has) (k := i) (by omega) (-1))]; rfl
theorem well_is {m : Mkt} {o : Outc} (h : EvOk m o) {i j : Nat} (hi : i < m.bids.length) (hj : j < m.res.length) :
    wellB m o i (j : Int) = true ↔ (j ∈ dem (gi (gainsM m)) m.res.length (qOf m o.prices) i ∧ slotOf o.has i ≠ some j) := by
  have hm := h.fit.mok
  have hl := h.fit.hlen
  have hx := h.fit.item _ (getD_mem (l := o.has) (k := i) (by omega) (-1))
  have hs := slot_of (getD_some (l := o.has) (k := i) (by omega) (-1))
  rw [h.even.rk_zero hi hj]
  unfold wellB
  by_cases he : m.bids.getD i [] = []
  · rw [he]
    have h1 := h.even.zero i hi
    have h2 := h.even.nonneg j hj
    rw [gain_at hm o.prices hi hj, if_pos he]
    constructor
    · intro h; simp at h
    · rintro ⟨h, _⟩; omega
  · have hpos : decide (0 < (m.bids.getD i []).length) = true := by simpa [List.length_pos_iff] using he
    rw [hpos, Bool.true_and, sur_is hm h.pr hl hi hx.1 hx.2 he, byV_is hm h.pr hi hj he, hs]
    simp only [Bool.and_eq_true, bne_iff_ne, beq_iff_eq]
    constructor
    · rintro ⟨h1, h2⟩
      refine ⟨h2.symm, ?_⟩
      split
      · simp
      · intro e; cases e; omega
    · rintro ⟨h1, h2⟩
      refine ⟨fun e => ?_, h1.symm⟩
      rw [e, if_neg (by omega)] at h2
      simp at h2
theorem dep_rk {m : Mkt} {o : Outc} (h : EvOk m o) : ∀ (d j : Nat), j < m.res.length → (Dep (woodOf m o) d j ↔ Rk (gi (gainsM m)) m.res.length m.bids.length (qOf m o.prices) (slotOf o.has) d j)
  | 0, j, hj => by
    show resB m o j = true ↔ qOf m o.prices j = 0
    unfold resB qOf
    rw [beq_iff_eq]; omega
  | d + 1, j, hj => by
    have hM : (woodOf m o).M = m.bids.length := h.fit.hlen
    have hlt : ∀ i k, (woodOf m o).now i = some k → k < m.res.length := fun i k hk => by
      have := h.fit.now i k hk
      have e : (woodOf m o).N = o.prices.length := rfl
      have := h.fit.plen
      omega
    show (Dep (woodOf m o) d j ∨ ∃ i, i < (woodOf m o).M ∧ wellB m o i (j : Int) = true ∧ ∀ k, (woodOf m o).now i = some k → Dep (woodOf m o) d k) ↔
      (Rk (gi (gainsM m)) m.res.length m.bids.length (qOf m o.prices) (slotOf o.has) d j ∨ ∃ i, i < m.bids.length ∧ j ∈ dem (gi (gainsM m)) m.res.length (qOf m o.prices) i ∧ slotOf o.has i ≠ some j ∧ ∀ j', slotOf o.has i = some j' → Rk (gi (gainsM m)) m.res.length m.bids.length (qOf m o.prices) (slotOf o.has) d j')
    rw [dep_rk h d j hj, hM]
    constructor
    · rintro (h1 | ⟨i, hi, hw, hk⟩)
      · exact .inl h1
      · obtain ⟨h2, h3⟩ := (well_is h hi hj).1 hw
        refine .inr ⟨i, hi, h2, h3, fun k hs => ?_⟩
        have hn : (woodOf m o).now i = some k := (now_slot h.fit.hlen hi).trans hs
        exact (dep_rk h d k (hlt i k hn)).1 (hk k hn)
    · rintro (h1 | ⟨i, hi, h2, h3, hk⟩)
      · exact .inl h1
      · refine .inr ⟨i, hi, (well_is h hi hj).2 ⟨h2, h3⟩, fun k hn => ?_⟩
        exact (dep_rk h d k (hlt i k hn)).2 (hk k ((now_slot h.fit.hlen hi).symm.trans hn))
/-- prices that are the least have reasons -/
theorem allB_low {m : Mkt} {o : Outc} (h : EvOk m o) (hp : o.prices = leastM m) : allB (woodOf m o) = true := by
  have hl : Lowest (gi (gainsM m)) m.res.length m.bids.length (qOf m o.prices) := by rw [hp]; exact h.fit.mok.least.low
  have hr : ∀ K, K ≤ m.res.length → ∃ n, ∀ j, j < K → Rk (gi (gainsM m)) m.res.length m.bids.length (qOf m o.prices) (slotOf o.has) n j := by
    intro K
    induction K with
    | zero => exact fun _ => ⟨0, fun j hj => by omega⟩
    | succ K ih =>
      intro hK
      obtain ⟨n, hn⟩ := ih (by omega)
      obtain ⟨n', hn'⟩ := h.even.valid.ranked h.even.nonneg hl (j := K) (by omega)
      refine ⟨max n n', fun j hj => ?_⟩
      by_cases e : j < K
      · exact (hn j e).mono (by omega)
      · obtain rfl : j = K := by omega
        exact hn'.mono (by omega)
  obtain ⟨n, hn⟩ := hr _ (Nat.le_refl _)
  refine (all_of (n := n) h.fit.now fun j hj => ?_).1
  have hj' : j < m.res.length := by have e : (woodOf m o).N = o.prices.length := rfl; have := h.fit.plen; omega
  obtain ⟨b, r, _, e⟩ := dep_lv n j ((dep_rk h n j hj').2 (hn j hj'))
  exact ⟨_, e⟩
theorem allB_some {W : Wood} (h : allB W = true) : ∀ j, j < W.N → ∃ x, lv W W.N j = some x := fun j hj => by
  have := List.all_eq_true.1 h j (List.mem_range.2 hj)
  exact Option.isSome_iff_exists.1 this
/-- .. and no others -/
theorem low_allB {m : Mkt} {o : Outc} (h : EvOk m o) (ha : allB (woodOf m o) = true) : o.prices = leastM m := by
  have hm := h.fit.mok
  have hN8 : (woodOf m o).N ≤ 8 := by show o.prices.length ≤ 8; rw [h.fit.plen]; exact hm.n8
  have hs := lv_says (W := woodOf m o) (wrap := wrap64) (fun x h1 h2 => by unfold wrap64; omega) (n := (woodOf m o).N) (by omega) h.fit.now (allB_some ha)
  have hlow := h.withLeast
  refine list_ext0 (by rw [h.fit.plen]; exact hlow.fit.plen.symm) fun k hk => ?_
  have hk' : k < m.res.length := by have := h.fit.plen; omega
  obtain ⟨d, _, _, hd⟩ := hs.depth (fun x h1 h2 => by unfold wrap64; omega) (fun c x => by unfold wrap64; omega) (fun c x h0 h1 => by unfold wrap64; omega) (fun j hj => by
    obtain ⟨⟨b, r⟩, hx⟩ := allB_some ha j hj
    have := lv_most h.fit.now hj hx
    show wrap64 (((lv (woodOf m o) (woodOf m o).N j).getD (0, 0)).2 : Int) = _
    rw [hx]
    show wrap64 (r : Int) = (r : Int)
    unfold wrap64; omega) (by omega) h.fit.now k (by show k < o.prices.length; exact hk)
  have h1 := Even.lowest h.even hlow.even (fun k hk => by
    have := h.low hk
    unfold qOf; simp only; omega) d k hk' ((dep_rk h d k hk').1 hd)
  have h2 := h.low hk'
  unfold qOf at h1
  simp only at h1
  omega

/-! ### reasons that are handed in -/
theorem says_check {m : Mkt} {o : Outc} {l : List (Int × Int)} (hf : ofitsB m o = true) (hl : l.length = o.prices.length) (hs : Says (woodOf m o) wrap64 (fun j => (l.getD j (0, 0)).1) (fun j => (l.getD j (0, 0)).2)) : checkB m o l = true := by
  simp only [checkB, Bool.and_eq_true, decide_eq_true_eq]
  refine ⟨hf, hl, List.all_eq_true.2 fun j hj => ?_⟩
  have hj' : j < (woodOf m o).N := by show j < o.prices.length; rw [← hl]; exact List.mem_range.1 hj
  unfold okWhy
  cases hr : resB m o j with
  | true =>
    obtain ⟨h1, h2⟩ := hs.res j hj' hr
    rw [if_pos rfl, beq_iff_eq]
    exact Prod.ext h1 h2
  | false =>
    obtain ⟨i, h1, h2, h3, h4⟩ := hs.who j hj' hr
    have h1 : (l.getD j (0, 0)).1 = (i : Int) := h1
    have h4 : (l.getD j (0, 0)).2 = match nowOf o i with | none => 1 | some k => wrap64 (1 + (l.getD k (0, 0)).2) := h4
    rw [if_neg (by decide), h1]
    have h2' : i < o.has.length := h2
    have h3' : wellB m o i (j : Int) = true := h3
    simp only [Bool.and_eq_true, decide_eq_true_eq, Int.toNat_natCast, beq_iff_eq]
    refine ⟨⟨by omega, by omega⟩, h3', ?_⟩
    rw [h4]
    show (match nowOf o i with | none => 1 | some k => wrap64 (1 + (l.getD k (0, 0)).2)) = rankOf o l (i : Int)
    unfold rankOf nowOf
    rw [Int.toNat_natCast]
    split <;> rename_i hh <;> split at hh <;> rename_i h5
    · rw [if_pos h5]
    · cases hh
    · cases hh
    · cases hh; rw [if_neg h5]
theorem outL_at {n : Nat} {s : Sta} {j : Nat} (hj : j < n) {x : Int × Nat} (hx : s j = some x) : (outL n s).getD j (0, 0) = (x.1, (x.2 : Int)) := by
  rw [List.getD_eq_getElem?_getD, outL_get hj, hx]; rfl
def foundL (m : Mkt) (o : Outc) : List (Int × Int) := outL o.prices.length (lv (woodOf m o) o.prices.length)
theorem found_check {m : Mkt} {o : Outc} (hf : ofitsB m o = true) (ha : allB (woodOf m o) = true) : checkB m o (foundL m o) = true := by
  have hfo := ofitsB_ok hf
  have hN8 : (woodOf m o).N ≤ 8 := by show o.prices.length ≤ 8; rw [hfo.plen]; exact hfo.mok.n8
  have hs := lv_says (W := woodOf m o) (wrap := wrap64) (fun x h1 h2 => by unfold wrap64; omega) (n := (woodOf m o).N) (by omega) hfo.now (allB_some ha)
  refine says_check hf (outL_length _ _) ?_
  have e : ∀ j, j < (woodOf m o).N → (foundL m o).getD j (0, 0) = (((lv (woodOf m o) (woodOf m o).N j).getD (0, 0)).1, (((lv (woodOf m o) (woodOf m o).N j).getD (0, 0)).2 : Int)) := fun j hj => by
    obtain ⟨x, hx⟩ := allB_some ha j hj
    rw [hx]
    exact outL_at hj hx
  refine ⟨fun j hj hr => ?_, fun j hj hr => ?_⟩
  · rw [e j hj]; exact hs.res j hj hr
  · obtain ⟨i, h1, h2, h3, h4⟩ := hs.who j hj hr
    refine ⟨i, by rw [e j hj]; exact h1, h2, h3, ?_⟩
    rw [e j hj]
    simp only at h4 ⊢
    rw [h4]
    cases hn : (woodOf m o).now i with
    | none => rfl
    | some k =>
      simp only
      rw [e k (hfo.now i k hn)]
/-- what is known of what is found -/
theorem found_at {m : Mkt} {o : Outc} (hf : ofitsB m o = true) (ha : allB (woodOf m o) = true) {j : Nat} (hj : j < o.prices.length) :
    ∃ p, (foundL m o)[j]? = some p ∧ 0 ≤ p.2 ∧ p.2 ≤ o.prices.length ∧ (p.2 = 0 ↔ o.prices.getD j 0 = m.res.getD j 0) ∧ (p.1 = -1 ↔ p.2 = 0) ∧ -1 ≤ p.1 ∧ p.1 < 100 := by
  have hfo := ofitsB_ok hf
  obtain ⟨⟨b, r⟩, hx⟩ := allB_some ha j hj
  have hmost := lv_most hfo.now hj hx
  refine ⟨(b, (r : Int)), ?_, by simp, by simp only; have e : (woodOf m o).N = o.prices.length := rfl; omega, ?_, ?_⟩
  · unfold foundL
    rw [outL_get hj, show lv (woodOf m o) o.prices.length j = some (b, r) from hx]
  · rcases lv_is hx with ⟨e, hr⟩ | ⟨hr, i, r', e, _⟩
    · cases e
      have : (o.prices.getD j 0 == m.res.getD j 0) = true := hr
      simpa using this
    · cases e
      have : (o.prices.getD j 0 == m.res.getD j 0) = false := hr
      simp only [beq_eq_false_iff_ne, ne_eq] at this
      constructor
      · intro h; omega
      · intro h; exact absurd h this
  · rcases lv_is hx with ⟨e, hr⟩ | ⟨hr, i, r', e, _, _, hiM, _⟩
    · cases e; simp
    · cases e
      have : i < o.has.length := hiM
      have := hfo.hlen
      have := hfo.mok.m8
      simp only
      refine ⟨?_, by omega, by omega⟩
      constructor
      · intro h; omega
      · intro h; omega
/-- with another rank they are none -/
theorem spoil_rank {m : Mkt} {o : Outc} {l : List (Int × Int)} (hc : checkB m o l = true) {j : Nat} (hj : j < l.length) {v : Int} (hv : v ≠ (l.getD j (0, 0)).2) : checkB m o (l.set j ((l.getD j (0, 0)).1, v)) = false := by
  have hset : (l.set j ((l.getD j (0, 0)).1, v)).getD j (0, 0) = ((l.getD j (0, 0)).1, v) := by
    rw [List.getD_eq_getElem?_getD, List.getElem?_set_self hj]; rfl
  cases hb : checkB m o (l.set j ((l.getD j (0, 0)).1, v)) with
  | false => rfl
  | true =>
    simp only [checkB, Bool.and_eq_true, decide_eq_true_eq] at hc hb
    have h1 := List.all_eq_true.1 hc.2.2 j (List.mem_range.2 hj)
    have h2 := List.all_eq_true.1 hb.2.2 j (List.mem_range.2 (by simpa using hj))
    unfold okWhy at h1 h2
    rw [hset] at h2
    cases hr : resB m o j with
    | true =>
      rw [hr, if_pos rfl] at h1 h2
      rw [beq_iff_eq] at h1 h2
      have e1 := congrArg Prod.snd h1
      have e2 := congrArg Prod.snd h2
      simp only at e1 e2
      omega
    | false =>
      rw [hr, if_neg (by decide)] at h1 h2
      simp only [Bool.and_eq_true, decide_eq_true_eq, beq_iff_eq] at h1 h2
      have hw := h1.2.1
      have e1 := h1.2.2
      have e2 := h2.2.2
      refine absurd ?_ hv
      rw [e1, e2]
      unfold rankOf
      by_cases hn : o.has.getD (l.getD j (0, 0)).1.toNat (-1) = -1
      · rw [if_pos hn, if_pos hn]
      · rw [if_neg hn, if_neg hn]
        have hne : o.has.getD (l.getD j (0, 0)).1.toNat (-1) ≠ (j : Int) := by
          simp only [wellB, Bool.and_eq_true, bne_iff_ne] at hw
          exact hw.2.1
        have hge : -1 ≤ o.has.getD (l.getD j (0, 0)).1.toNat (-1) := by
          have h3 := h1.1
          exact ((ofitsB_ok hc.1).item _ (getD_mem (l := o.has) (k := (l.getD j (0, 0)).1.toNat) (by omega) (-1))).1
        rw [List.getD_eq_getElem?_getD, List.getElem?_set_ne (by omega), ← List.getD_eq_getElem?_getD]
/-- nor with a bidder that has the item itself -/
theorem spoil_bidder {m : Mkt} {o : Outc} {l : List (Int × Int)} {j i : Nat} {r : Int} (hj : j < l.length) (hi : o.has[i]? = some (j : Int)) : checkB m o (l.set j ((i : Int), r)) = false := by
  have hset : (l.set j ((i : Int), r)).getD j (0, 0) = ((i : Int), r) := by
    rw [List.getD_eq_getElem?_getD, List.getElem?_set_self hj]; rfl
  cases hb : checkB m o (l.set j ((i : Int), r)) with
  | false => rfl
  | true =>
    simp only [checkB, Bool.and_eq_true, decide_eq_true_eq] at hb
    have h2 := List.all_eq_true.1 hb.2.2 j (List.mem_range.2 (by simpa using hj))
    unfold okWhy at h2
    rw [hset] at h2
    cases hr : resB m o j with
    | true =>
      rw [hr, if_pos rfl, beq_iff_eq] at h2
      have e1 := congrArg Prod.fst h2
      simp only at e1
      omega
    | false =>
      rw [hr, if_neg (by decide)] at h2
      simp only [Bool.and_eq_true, decide_eq_true_eq, Int.toNat_natCast] at h2
      have hw := h2.2.1
      simp only [wellB, Bool.and_eq_true, bne_iff_ne, getD_at hi] at hw
      exact absurd rfl hw.2.1
theorem spoil_len {m : Mkt} {o : Outc} {l l' : List (Int × Int)} (hc : checkB m o l = true) (hl : l'.length ≠ l.length) : checkB m o l' = false := by
  cases hb : checkB m o l' with
  | false => rfl
  | true =>
    simp only [checkB, Bool.and_eq_true, decide_eq_true_eq] at hc hb
    omega
end Go.Proofs.YtbnjeegicbffeaaGreat
