/- Plain mathematics: prices that rise, step by step: each step is below all prices at which nobody is left out; where there is none nobody is left out. -/
import Derived.Test.YtbnjeegicbffeaaPrice
namespace Sale
open Way (nodup_len nodup_all inj_len)

/-- the least of some numbers -/
def lmin : List Int → Int
  | [] => 0
  | x :: l => l.foldl min x
theorem foldmin_le : ∀ (l : List Int) (a : Int), l.foldl min a ≤ a ∧ ∀ x, x ∈ l → l.foldl min a ≤ x
  | [], a => ⟨Int.le_refl _, fun _ h => absurd h List.not_mem_nil⟩
  | y :: l, a => by
    obtain ⟨h1, h2⟩ := foldmin_le l (min a y)
    rw [List.foldl_cons]
    refine ⟨by omega, fun x hx => ?_⟩
    rcases List.mem_cons.1 hx with rfl | hx
    · omega
    · exact h2 x hx
theorem foldmin_mem : ∀ (l : List Int) (a : Int), l.foldl min a = a ∨ l.foldl min a ∈ l
  | [], a => .inl rfl
  | y :: l, a => by
    rw [List.foldl_cons]
    rcases foldmin_mem l (min a y) with h | h
    · rw [h]
      rcases Int.le_total a y with h1 | h1
      · exact .inl (Int.min_eq_left h1)
      · exact .inr (by rw [Int.min_eq_right h1]; exact List.mem_cons_self)
    · exact .inr (List.mem_cons_of_mem _ h)
theorem lmin_le {l : List Int} {x : Int} (h : x ∈ l) : lmin l ≤ x := by
  cases l with
  | nil => cases h
  | cons y l =>
    obtain ⟨h1, h2⟩ := foldmin_le l y
    rcases List.mem_cons.1 h with rfl | h
    · exact h1
    · exact h2 x h
theorem lmin_mem {l : List Int} (h : l ≠ []) : lmin l ∈ l := by
  cases l with
  | nil => exact absurd rfl h
  | cons y l =>
    rcases foldmin_mem l y with e | e
    · show l.foldl min y ∈ y :: l
      rw [e]; exact List.mem_cons_self
    · exact List.mem_cons_of_mem _ e

/-- what they would have, of who must have -/
def wantsOf (g : Nat → Nat → Int) (N : Nat) (q : Nat → Int) (i : Nat) : List Nat := if 0 < top g N q i then dem g N q i else []
/-- the first of the least sets that too many want -/
def fewQ (g : Nat → Nat → Int) (N M : Nat) (q : Nat → Int) : Option (List Nat) := Way.fewOf (wantsOf g N q) N (musts g N M q)
/-- how far it may rise, by each of those who want nothing else -/
def farL (g : Nat → Nat → Int) (N : Nat) (q : Nat → Int) (X : List Nat) (i : Nat) : List Int := top g N q i :: ((List.range N).filter fun k => !X.contains k).map fun k => top g N q i - (g i k - q k)
def farOf (g : Nat → Nat → Int) (N M : Nat) (q : Nat → Int) (X : List Nat) : Int := lmin ((within (wantsOf g N q) (musts g N M q) X).flatMap (farL g N q X))
/-- prices, one step higher; none: there is none -/
def stepQ (g : Nat → Nat → Int) (N M : Nat) (q : Nat → Int) : Option (Nat → Int) := (fewQ g N M q).map fun X k => if k ∈ X then q k + farOf g N M q X else q k

theorem within_wants {g : Nat → Nat → Int} {N M : Nat} {q : Nat → Int} {X : List Nat} : within (wantsOf g N q) (musts g N M q) X = within (dem g N q) (musts g N M q) X := by
  unfold within
  refine List.filter_congr fun i hi => ?_
  unfold wantsOf
  rw [if_pos (mem_musts.1 hi).2]

theorem wants_lt {g : Nat → Nat → Int} {N : Nat} {q : Nat → Int} {i k : Nat} (h : k ∈ wantsOf g N q i) : k < N := by
  unfold wantsOf at h
  split at h
  · exact (mem_dem.1 h).1
  · cases h

theorem few_least {g : Nat → Nat → Int} {N M : Nat} {q : Nat → Int} {X : List Nat} (h : fewQ g N M q = some X) : Least (dem g N q) (musts g N M q) N X := by
  obtain ⟨h1, _⟩ := Way.fewOf_some h
  exact ⟨h1.nodup, h1.lt, by rw [← within_wants]; exact h1.many, fun Y hn hY hlen => by rw [← within_wants]; exact h1.least Y hn hY hlen⟩

theorem few_cover {g : Nat → Nat → Int} {N M : Nat} {q : Nat → Int} (hN : N ≤ 8) (h : fewQ g N M q = none) : Cover g N M q := by
  have hall := Way.fewOf_all (nb := wantsOf g N q) (M := M) (N := N) (some' := musts g N M q) (fun w _ k hk => wants_lt hk) hN (musts_nodup _ _ _ _) (fun i hi => (mem_musts.1 hi).1)
  rw [show Way.fewOf (wantsOf g N q) N (musts g N M q) = none from h] at hall
  obtain ⟨h1, h2⟩ := Way.allOf_mat (nb := wantsOf g N q) (M := M) (some' := musts g N M q) (fun w _ k hk => by have := wants_lt hk; omega) hall.symm
  refine ⟨_, ⟨fun i _ k hk => wants_lt (h1.fits i k hk), fun i _ i' _ k hk hk' => h1.inj i i' k hk hk'⟩, fun i hi hp => ?_⟩
  obtain ⟨k, hk⟩ := h2 i (mem_musts.2 ⟨hi, hp⟩)
  refine ⟨k, hk, ?_⟩
  have := h1.fits i k hk
  unfold wantsOf at this
  rw [if_pos hp] at this
  exact this

theorem far_le {g : Nat → Nat → Int} {N M : Nat} {q : Nat → Int} {X : List Nat} {i : Nat} (hi : i ∈ within (dem g N q) (musts g N M q) X) : farOf g N M q X ≤ top g N q i ∧ ∀ k, k < N → k ∉ X → farOf g N M q X ≤ top g N q i - (g i k - q k) := by
  rw [← within_wants] at hi
  unfold farOf
  refine ⟨lmin_le (List.mem_flatMap.2 ⟨i, hi, List.mem_cons_self⟩), fun k hk hkX => lmin_le (List.mem_flatMap.2 ⟨i, hi, List.mem_cons_of_mem _ (List.mem_map.2 ⟨k, List.mem_filter.2 ⟨List.mem_range.2 hk, ?_⟩, rfl⟩)⟩)⟩
  simpa using hkX

theorem far_pos {g : Nat → Nat → Int} {N M : Nat} {q : Nat → Int} {X : List Nat} (h : fewQ g N M q = some X) : 1 ≤ farOf g N M q X := by
  have hL := few_least h
  have hne : (within (wantsOf g N q) (musts g N M q) X).flatMap (farL g N q X) ≠ [] := by
    have : 0 < (within (dem g N q) (musts g N M q) X).length := by have := hL.many; omega
    obtain ⟨i, hi⟩ := List.exists_mem_of_length_pos this
    rw [← within_wants] at hi
    exact fun e => by
      have : top g N q i ∈ (within (wantsOf g N q) (musts g N M q) X).flatMap (farL g N q X) := List.mem_flatMap.2 ⟨i, hi, List.mem_cons_self⟩
      rw [e] at this; cases this
  have hm := lmin_mem hne
  obtain ⟨i, hi, hx⟩ := List.mem_flatMap.1 hm
  rw [within_wants] at hi
  obtain ⟨him, hiX⟩ := mem_within.1 hi
  obtain ⟨_, hp⟩ := mem_musts.1 him
  show 1 ≤ lmin _
  rcases List.mem_cons.1 hx with e | e
  · omega
  · obtain ⟨k, hk, e⟩ := List.mem_map.1 e
    obtain ⟨hkN, hkX⟩ := List.mem_filter.1 hk
    have hkN := List.mem_range.1 hkN
    have hkX : k ∉ X := by simpa using hkX
    have h1 := top_ge (g := g) (q := q) (i := i) hkN
    have h2 : g i k - q k ≠ top g N q i := fun e => hkX (hiX k (mem_dem.2 ⟨hkN, e⟩))
    omega

theorem far_bd {g : Nat → Nat → Int} {N M : Nat} {q : Nat → Int} {X : List Nat} (h : fewQ g N M q = some X) : ∃ i, i < M ∧ farOf g N M q X ≤ top g N q i := by
  have hL := few_least h
  have : 0 < (within (dem g N q) (musts g N M q) X).length := by have := hL.many; omega
  obtain ⟨i, hi⟩ := List.exists_mem_of_length_pos this
  exact ⟨i, (mem_musts.1 (mem_within.1 hi).1).1, (far_le hi).1⟩

/-- one step: higher, and still below all prices at which nobody is left out -/
theorem step_below {g : Nat → Nat → Int} {N M : Nat} {q q1 q' : Nat → Int} (h : stepQ g N M q = some q1) (hle : ∀ k, k < N → q k ≤ q' k) (hc : Cover g N M q') : ∀ k, k < N → q1 k ≤ q' k := by
  unfold stepQ at h
  cases hX : fewQ g N M q with
  | none => rw [hX] at h; cases h
  | some X =>
    rw [hX] at h
    cases h
    intro k hk
    simp only
    split
    · exact rise_below (few_least hX) (fun i hi => far_le hi) hle hc k (by assumption)
    · exact hle k hk
theorem step_up {g : Nat → Nat → Int} {N M : Nat} {q q1 : Nat → Int} (h : stepQ g N M q = some q1) : (∀ k, q k ≤ q1 k) ∧ sumN q N + 1 ≤ sumN q1 N := by
  unfold stepQ at h
  cases hX : fewQ g N M q with
  | none => rw [hX] at h; cases h
  | some X =>
    rw [hX] at h
    cases h
    have hp := far_pos hX
    have hL := few_least hX
    have hle : ∀ k, q k ≤ (if k ∈ X then q k + farOf g N M q X else q k) := fun k => by split <;> omega
    refine ⟨hle, ?_⟩
    have hx : ∃ x, x ∈ X := by
      apply Classical.byContradiction
      intro hno
      have : X = [] := List.eq_nil_iff_forall_not_mem.2 fun x hx => hno ⟨x, hx⟩
      subst this
      have hm : 0 < (within (dem g N q) (musts g N M q) []).length := hL.many
      obtain ⟨i, hi⟩ := List.exists_mem_of_length_pos hm
      obtain ⟨him, hiX⟩ := mem_within.1 hi
      obtain ⟨_, hpi⟩ := mem_musts.1 him
      rcases top_cases g N q i with h1 | ⟨k, hk, h1⟩
      · omega
      · exact absurd (hiX k (mem_dem.2 ⟨hk, h1.symm⟩)) List.not_mem_nil
    obtain ⟨x, hx⟩ := hx
    have h1 := sumN_le (n := N) (f := fun k => if k = x then q x + 1 else q k) (f' := fun k => if k ∈ X then q k + farOf g N M q X else q k) fun k hk => by
      by_cases e : k = x
      · subst e; rw [if_pos rfl, if_pos hx]; omega
      · rw [if_neg e]; exact hle k
    have h2 := sumN_one (f := q) (a := q x + 1) (hL.lt x hx)
    show sumN q N + 1 ≤ sumN (fun k => if k ∈ X then q k + farOf g N M q X else q k) N
    omega

/-- prices that none gains by -/
theorem cover_high {g : Nat → Nat → Int} {N M : Nat} {B : Int} (h : ∀ i, i < M → ∀ k, k < N → g i k ≤ B) : Cover g N M (fun _ => B) :=
  ⟨fun _ => none, ⟨(fun _ _ _ h => by cases h), (fun _ _ _ _ _ h => by cases h)⟩, fun i hi hp => by
    have : top g N (fun _ => B) i = 0 := top_eq (Int.le_refl _) (fun k hk => by have := h i hi k hk; omega) (.inl rfl)
    omega⟩

/-- the least prices are one list of prices -/
theorem Lowest.unique {g : Nat → Nat → Int} {N M : Nat} {q q' : Nat → Int} (h : Lowest g N M q) (hq : ∀ k, k < N → 0 ≤ q k) (hc : Cover g N M q) (h' : Lowest g N M q') (hq' : ∀ k, k < N → 0 ≤ q' k) (hc' : Cover g N M q') : ∀ k, k < N → q k = q' k := fun k hk =>
  Int.le_antisymm (h q' hq' hc' k hk) (h' q hq hc k hk)

/-- the prices of the steps: from 0 on, and where there is no step more the least ones -/
structure Rising (g : Nat → Nat → Int) (N M : Nat) (q : Nat → Int) : Prop where
  nonneg : ∀ k, k < N → 0 ≤ q k
  low : Lowest g N M q
theorem Rising.start (g : Nat → Nat → Int) (N M : Nat) : Rising g N M (fun _ => 0) := ⟨fun _ _ => Int.le_refl _, fun _ h _ k hk => h k hk⟩
theorem Rising.step {g : Nat → Nat → Int} {N M : Nat} {q q1 : Nat → Int} (h : Rising g N M q) (hs : stepQ g N M q = some q1) : Rising g N M q1 :=
  ⟨fun k hk => by have := h.nonneg k hk; have := (step_up hs).1 k; omega, fun q' hq' hc k hk => step_below hs (fun k hk => h.low q' hq' hc k hk) hc k hk⟩
theorem Rising.bd {g : Nat → Nat → Int} {N M : Nat} {q : Nat → Int} (h : Rising g N M q) {B : Int} (hB : 0 ≤ B) (hg : ∀ i, i < M → ∀ k, k < N → g i k ≤ B) : ∀ k, k < N → q k ≤ B :=
  h.low (fun _ => B) (fun _ _ => hB) (cover_high hg)
theorem step_none {g : Nat → Nat → Int} {N M : Nat} {q : Nat → Int} (hN : N ≤ 8) (h : stepQ g N M q = none) : Cover g N M q := by
  unfold stepQ at h
  exact few_cover hN (by simpa using h)

/-- what hangs on the prices below N alone -/
theorem top_congr {g : Nat → Nat → Int} {N : Nat} {q q' : Nat → Int} (h : ∀ k, k < N → q k = q' k) (i : Nat) : top g N q i = top g N q' i := by
  refine top_eq (top_nonneg _ _ _ _) (fun k hk => by rw [h k hk]; exact top_ge hk) ?_
  rcases top_cases g N q' i with e | ⟨k, hk, e⟩
  · exact .inl e
  · exact .inr ⟨k, hk, by rw [e, h k hk]⟩
theorem dem_congr {g : Nat → Nat → Int} {N : Nat} {q q' : Nat → Int} (h : ∀ k, k < N → q k = q' k) (i : Nat) : dem g N q i = dem g N q' i := by
  unfold dem
  refine List.filter_congr fun k hk => ?_
  rw [h k (List.mem_range.1 hk), top_congr h]
theorem Cover.congr {g : Nat → Nat → Int} {N M : Nat} {q q' : Nat → Int} (h : ∀ k, k < N → q k = q' k) (hc : Cover g N M q) : Cover g N M q' := by
  obtain ⟨m, h1, h2⟩ := hc
  exact ⟨m, h1, fun i hi hp => by rw [← top_congr h] at hp; rw [← dem_congr h]; exact h2 i hi hp⟩
theorem Lowest.congr {g : Nat → Nat → Int} {N M : Nat} {q q' : Nat → Int} (h : ∀ k, k < N → q k = q' k) (hl : Lowest g N M q) : Lowest g N M q' := fun q2 hq2 hc k hk => by
  rw [← h k hk]; exact hl q2 hq2 hc k hk
theorem Rising.congr {g : Nat → Nat → Int} {N M : Nat} {q q' : Nat → Int} (h : ∀ k, k < N → q k = q' k) (hl : Rising g N M q) : Rising g N M q' :=
  ⟨fun k hk => by rw [← h k hk]; exact hl.nonneg k hk, hl.low.congr h⟩
end Sale
