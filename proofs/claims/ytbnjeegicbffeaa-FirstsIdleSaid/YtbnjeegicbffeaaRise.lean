/- Plain mathematics: what one would have at prices; sets that too many want; prices that rise stay below all that leave nobody out; at the end they are even with a matching. Prices are counted from the reserves on. -/
import Derived.Test.YtbnjeegicbffeaaEven
namespace Sale
open Way (nodup_len nodup_all inj_len)

/-! ### what one would have -/
/-- the most that one can have at prices, or 0 -/
def top (g : Nat → Nat → Int) (N : Nat) (q : Nat → Int) (i : Nat) : Int := foldMax (fun _ => true) (fun k => g i k - q k) 0 (List.range N)
/-- the items by which it has that -/
def dem (g : Nat → Nat → Int) (N : Nat) (q : Nat → Int) (i : Nat) : List Nat := (List.range N).filter fun k => decide (g i k - q k = top g N q i)

theorem top_nonneg (g : Nat → Nat → Int) (N : Nat) (q : Nat → Int) (i : Nat) : 0 ≤ top g N q i := foldMax_start _ _ _ _
theorem top_ge {g : Nat → Nat → Int} {N : Nat} {q : Nat → Int} {i k : Nat} (hk : k < N) : g i k - q k ≤ top g N q i := foldMax_ge (fun _ => true) (fun k => g i k - q k) _ _ k (List.mem_range.2 hk) rfl
theorem top_cases (g : Nat → Nat → Int) (N : Nat) (q : Nat → Int) (i : Nat) : top g N q i = 0 ∨ ∃ k, k < N ∧ top g N q i = g i k - q k := by
  rcases foldMax_cases (fun _ => true) (fun k => g i k - q k) (List.range N) 0 with h | ⟨k, hk, _, h⟩
  · exact .inl h
  · exact .inr ⟨k, List.mem_range.1 hk, h⟩
theorem top_eq {g : Nat → Nat → Int} {N : Nat} {q : Nat → Int} {i : Nat} {u : Int} (h0 : 0 ≤ u) (h1 : ∀ k, k < N → g i k - q k ≤ u) (h2 : u = 0 ∨ ∃ k, k < N ∧ u = g i k - q k) : top g N q i = u := by
  apply Int.le_antisymm
  · rcases top_cases g N q i with h | ⟨k, hk, h⟩
    · omega
    · rw [h]; exact h1 k hk
  · rcases h2 with h | ⟨k, hk, h⟩
    · rw [h]; exact top_nonneg _ _ _ _
    · rw [h]; exact top_ge hk
theorem mem_dem {g : Nat → Nat → Int} {N : Nat} {q : Nat → Int} {i k : Nat} : k ∈ dem g N q i ↔ k < N ∧ g i k - q k = top g N q i := by simp [dem]

/-! ### sets that too many want -/
def within (wants : Nat → List Nat) (must X : List Nat) : List Nat := must.filter fun i => (wants i).all fun k => X.contains k
theorem mem_within {wants : Nat → List Nat} {must X : List Nat} {i : Nat} : i ∈ within wants must X ↔ i ∈ must ∧ ∀ k, k ∈ wants i → k ∈ X := by simp [within]

/-- the least in number of the sets that too many want -/
structure Least (wants : Nat → List Nat) (must : List Nat) (N : Nat) (X : List Nat) : Prop where
  nodup : X.Nodup
  lt : ∀ k, k ∈ X → k < N
  many : X.length < (within wants must X).length
  least : ∀ Y : List Nat, Y.Nodup → (∀ k, k ∈ Y → k < N) → Y.length < X.length → (within wants must Y).length ≤ Y.length

theorem filter_split (p : Nat → Bool) : ∀ l : List Nat, (l.filter p).length + (l.filter fun x => !p x).length = l.length
  | [] => rfl
  | x :: l => by
    have := filter_split p l
    cases h : p x <;> simp [h] <;> omega

/-- each item of it is wanted by one that wants nothing else -/
theorem Least.wanted {wants : Nat → List Nat} {must : List Nat} {N : Nat} {X : List Nat} (h : Least wants must N X) {x : Nat} (hx : x ∈ X) : ∃ i, i ∈ within wants must X ∧ x ∈ wants i := by
  apply Classical.byContradiction
  intro hno
  have hle : (X.erase x).length < X.length := by
    rw [List.length_erase_of_mem hx]; have := List.length_pos_of_mem hx; omega
  have h1 := h.least (X.erase x) (h.nodup.erase x) (fun k hk => h.lt k (List.mem_of_mem_erase hk)) hle
  have h2 : within wants must (X.erase x) = within wants must X := by
    unfold within
    refine List.filter_congr fun i hi => ?_
    rw [Bool.eq_iff_iff]
    simp only [List.all_eq_true, List.contains_eq_mem, decide_eq_true_eq]
    constructor
    · exact fun h k hk => List.mem_of_mem_erase (h k hk)
    · intro hall k hk
      have hne : k ≠ x := fun e => hno ⟨i, mem_within.2 ⟨hi, hall⟩, e ▸ hk⟩
      exact (List.mem_erase_of_ne hne).2 (hall k hk)
  rw [h2] at h1
  have := h.many
  omega

/-- all who must have one can have one that they want -/
def Cover (g : Nat → Nat → Int) (N M : Nat) (q : Nat → Int) : Prop := ∃ m, Inj m M N ∧ ∀ i, i < M → 0 < top g N q i → ∃ k, m i = some k ∧ k ∈ dem g N q i

def musts (g : Nat → Nat → Int) (N M : Nat) (q : Nat → Int) : List Nat := (List.range M).filter fun i => decide (0 < top g N q i)
theorem mem_musts {g : Nat → Nat → Int} {N M : Nat} {q : Nat → Int} {i : Nat} : i ∈ musts g N M q ↔ i < M ∧ 0 < top g N q i := by simp [musts]
theorem musts_nodup (g : Nat → Nat → Int) (N M : Nat) (q : Nat → Int) : (musts g N M q).Nodup := List.Pairwise.filter _ List.nodup_range

theorem Cover.few {g : Nat → Nat → Int} {N M : Nat} {q : Nat → Int} (h : Cover g N M q) {T X : List Nat} (hn : T.Nodup) (hT : ∀ i, i ∈ T → i < M ∧ 0 < top g N q i ∧ ∀ k, k ∈ dem g N q i → k ∈ X) : T.length ≤ X.length := by
  obtain ⟨m, hm, hc⟩ := h
  obtain ⟨h1, h2, h3⟩ := inj_len (R := T) (C := X) (f := m) hn (fun i hi => by
    obtain ⟨a, b, c⟩ := hT i hi
    obtain ⟨k, hk, hd⟩ := hc i a b
    exact ⟨k, hk, c k hd⟩) fun i i' k hi hi' => hm.one i (hT i hi).1 i' (hT i' hi').1 k
  rw [← h2]; exact nodup_len h1 h3

/-- PRICES THAT RISE: the least set of those that too many want rises as far as those who want nothing else let it: it stays below all prices at which nobody is left out -/
theorem rise_below {g : Nat → Nat → Int} {N M : Nat} {q q' : Nat → Int} {X : List Nat} {by' : Int} (hX : Least (dem g N q) (musts g N M q) N X)
    (hby : ∀ i, i ∈ within (dem g N q) (musts g N M q) X → by' ≤ top g N q i ∧ ∀ k, k < N → k ∉ X → by' ≤ top g N q i - (g i k - q k))
    (hle : ∀ k, k < N → q k ≤ q' k) (hc : Cover g N M q') : ∀ x, x ∈ X → q x + by' ≤ q' x := by
  apply Classical.byContradiction
  intro hno
  have hno : ∃ x, x ∈ X ∧ q' x < q x + by' := by
    apply Classical.byContradiction
    intro h
    exact hno fun x hx => by
      rcases Int.lt_or_le (q' x) (q x + by') with h1 | h1
      · exact absurd ⟨x, hx, h1⟩ h
      · exact h1
  -- the least that is left of it
  obtain ⟨t, x0, hx0, ht0, hmin⟩ : ∃ t x0, x0 ∈ X ∧ q' x0 - q x0 = t ∧ ∀ x, x ∈ X → t ≤ q' x - q x := by
    obtain ⟨x1, hx1, _⟩ := hno
    have hmn : ∀ (l : List Nat), l ≠ [] → ∃ x0, x0 ∈ l ∧ ∀ x, x ∈ l → q' x0 - q x0 ≤ q' x - q x := by
      intro l
      induction l with
      | nil => intro h; exact absurd rfl h
      | cons a l ih =>
        intro _
        by_cases hl : l = []
        · subst hl; exact ⟨a, List.mem_cons_self, fun x hx => by rcases List.mem_cons.1 hx with rfl | hx; exact Int.le_refl _; cases hx⟩
        · obtain ⟨x0, h0, h1⟩ := ih hl
          rcases Int.le_total (q' a - q a) (q' x0 - q x0) with h | h
          · refine ⟨a, List.mem_cons_self, fun x hx => ?_⟩
            rcases List.mem_cons.1 hx with rfl | hx
            · exact Int.le_refl _
            · exact Int.le_trans h (h1 x hx)
          · refine ⟨x0, List.mem_cons_of_mem _ h0, fun x hx => ?_⟩
            rcases List.mem_cons.1 hx with rfl | hx
            · exact h
            · exact h1 x hx
    obtain ⟨x0, h0, h1⟩ := hmn X (fun e => by rw [e] at hx1; cases hx1)
    exact ⟨_, x0, h0, rfl, h1⟩
  have htb : t < by' := by
    obtain ⟨x, hx, h⟩ := hno
    have := hmin x hx
    omega
  have ht : 0 ≤ t := by have := hle x0 (hX.lt x0 hx0); omega
  have hTn : (within (dem g N q) (musts g N M q) X).Nodup := List.Pairwise.filter _ (musts_nodup g N M q)
  obtain ⟨S, hS⟩ : ∃ S : List Nat, S = X.filter fun x => decide (q' x - q x = t) := ⟨_, rfl⟩
  obtain ⟨p, hp⟩ : ∃ p : Nat → Bool, p = fun i => (dem g N q i).any fun k => S.contains k := ⟨_, rfl⟩
  have hmemS : ∀ x, x ∈ S ↔ x ∈ X ∧ q' x - q x = t := fun x => by rw [hS]; simp
  have hspl := filter_split p (within (dem g N q) (musts g N M q) X)
  -- who wants one of S wants nothing else at the other prices
  have h1 : ((within (dem g N q) (musts g N M q) X).filter p).length ≤ S.length := by
    refine hc.few (hTn.filter _) fun i hi => ?_
    obtain ⟨hiT, hpi⟩ := List.mem_filter.1 hi
    obtain ⟨him, hiX⟩ := mem_within.1 hiT
    obtain ⟨hiM, hpos⟩ := mem_musts.1 him
    obtain ⟨b1, b2⟩ := hby i hiT
    rw [hp] at hpi
    simp only [List.any_eq_true, List.contains_eq_mem, decide_eq_true_eq] at hpi
    obtain ⟨s, hsd, hsS⟩ := hpi
    obtain ⟨hsN, hsu⟩ := mem_dem.1 hsd
    obtain ⟨hsX, hst⟩ := (hmemS s).1 hsS
    have hall : ∀ k, k < N → (k ∈ X ∧ g i k - q' k ≤ top g N q i - t) ∨ g i k - q' k < top g N q i - t := fun k hk => by
      by_cases hkX : k ∈ X
      · have := hmin k hkX
        have := top_ge (g := g) (q := q) (i := i) hk
        exact .inl ⟨hkX, by omega⟩
      · have := b2 k hk hkX
        have := hle k hk
        exact .inr (by omega)
    have htop : top g N q' i = top g N q i - t := top_eq (by omega) (fun k hk => by rcases hall k hk with h | h <;> omega) (.inr ⟨s, hsN, by omega⟩)
    refine ⟨hiM, by omega, fun k hk => ?_⟩
    obtain ⟨hkN, hku⟩ := mem_dem.1 hk
    rcases hall k hkN with ⟨hkX, _⟩ | h
    · have := hmin k hkX
      have := top_ge (g := g) (q := q) (i := i) hkN
      exact (hmemS k).2 ⟨hkX, by omega⟩
    · omega
  -- who wants none of S wants what is left of X
  have h2 : ((within (dem g N q) (musts g N M q) X).filter fun i => !p i).length ≤ (X.filter fun x => !decide (q' x - q x = t)).length := by
    have hlen : (X.filter fun x => !decide (q' x - q x = t)).length < X.length := by
      have e := filter_split (fun x => decide (q' x - q x = t)) X
      have : 0 < (X.filter fun x => decide (q' x - q x = t)).length := List.length_pos_of_mem (List.mem_filter.2 ⟨hx0, by simpa using ht0⟩)
      omega
    refine Nat.le_trans (nodup_len (hTn.filter _) fun i hi => ?_) (hX.least _ (hX.nodup.filter _) (fun k hk => hX.lt k (List.mem_filter.1 hk).1) hlen)
    obtain ⟨hiT, hpi⟩ := List.mem_filter.1 hi
    obtain ⟨him, hiX⟩ := mem_within.1 hiT
    refine mem_within.2 ⟨him, fun k hk => List.mem_filter.2 ⟨hiX k hk, ?_⟩⟩
    rw [hp] at hpi
    simp only [Bool.not_eq_true', List.any_eq_false, List.contains_eq_mem, decide_eq_true_eq] at hpi
    have := hpi k hk
    rw [hmemS] at this
    simp only [Bool.not_eq_true', decide_eq_false_iff_not]
    exact fun e => this ⟨hiX k hk, e⟩
  have h3 := filter_split (fun x => decide (q' x - q x = t)) X
  have h4 := hX.many
  rw [hS] at h1
  omega

/-! ### who has what that it would have -/
/-- nobody has what it would not have, or nothing where it must have -/
structure Valid (g : Nat → Nat → Int) (N M : Nat) (q : Nat → Int) (m : Nat → Option Nat) : Prop where
  inj : Inj m M N
  dem : ∀ i, i < M → ∀ k, m i = some k → k ∈ dem g N q i
  none : ∀ i, i < M → m i = none → top g N q i = 0

theorem Valid.sur {g : Nat → Nat → Int} {N M : Nat} {q : Nat → Int} {m : Nat → Option Nat} (h : Valid g N M q m) {i : Nat} (hi : i < M) : sur g q m i = top g N q i := by
  cases hm : m i with
  | none => rw [sur_none hm, h.none i hi hm]
  | some k => rw [sur_some hm]; exact (mem_dem.1 (h.dem i hi k hm)).2

theorem Valid.even {g : Nat → Nat → Int} {N M : Nat} {q : Nat → Int} {m : Nat → Option Nat} (h : Valid g N M q m) (hq : ∀ k, k < N → 0 ≤ q k) (hs : ∀ k, k < N → 0 < q k → ∃ i, i < M ∧ m i = some k) : Even g N M q m :=
  ⟨hq, h.inj, fun i hi => by rw [h.sur hi]; exact top_nonneg _ _ _ _, fun i hi k hk => by rw [h.sur hi]; exact top_ge hk, hs⟩

theorem Even.top {g : Nat → Nat → Int} {N M : Nat} {q : Nat → Int} {m : Nat → Option Nat} (h : Even g N M q m) {i : Nat} (hi : i < M) : top g N q i = Sale.sur g q m i := by
  refine top_eq (h.zero i hi) (h.best i hi) ?_
  cases hm : m i with
  | none => exact .inl (sur_none hm)
  | some k => exact .inr ⟨k, h.inj.lt i hi k hm, sur_some hm⟩

theorem Even.valid {g : Nat → Nat → Int} {N M : Nat} {q : Nat → Int} {m : Nat → Option Nat} (h : Even g N M q m) : Valid g N M q m :=
  ⟨h.inj, fun i hi k hk => mem_dem.2 ⟨h.inj.lt i hi k hk, by rw [h.top hi, sur_some hk]⟩, fun i hi hm => by rw [h.top hi, sur_none hm]⟩

theorem Valid.cover {g : Nat → Nat → Int} {N M : Nat} {q : Nat → Int} {m : Nat → Option Nat} (h : Valid g N M q m) : Cover g N M q :=
  ⟨m, h.inj, fun i hi hp => by
    cases hm : m i with
    | none => have := h.none i hi hm; omega
    | some k => exact ⟨k, rfl, h.dem i hi k hm⟩⟩

theorem Cover.valid {g : Nat → Nat → Int} {N M : Nat} {q : Nat → Int} (h : Cover g N M q) : ∃ m, Valid g N M q m := by
  obtain ⟨m, hm, hc⟩ := h
  refine ⟨fun i => if 0 < Sale.top g N q i then m i else Option.none, ⟨fun i hi k hk => ?_, fun i hi i' hi' k hk hk' => ?_⟩, fun i hi k hk => ?_, fun i hi hn => ?_⟩
  · by_cases h : 0 < Sale.top g N q i
    · rw [if_pos h] at hk; exact hm.lt i hi k hk
    · rw [if_neg h] at hk; cases hk
  · by_cases h : 0 < Sale.top g N q i
    · by_cases h' : 0 < Sale.top g N q i'
      · rw [if_pos h] at hk; rw [if_pos h'] at hk'; exact hm.one i hi i' hi' k hk hk'
      · rw [if_neg h'] at hk'; cases hk'
    · rw [if_neg h] at hk; cases hk
  · by_cases h : 0 < Sale.top g N q i
    · rw [if_pos h] at hk
      obtain ⟨k', e, hd⟩ := hc i hi h
      rw [hk] at e; cases e; exact hd
    · rw [if_neg h] at hk; cases hk
  · by_cases h : 0 < Sale.top g N q i
    · rw [if_pos h] at hn
      obtain ⟨k', e, _⟩ := hc i hi h
      rw [hn] at e; cases e
    · have := top_nonneg g N q i; omega

/-! ### reasons -/
/-- by how many steps at most an item is from one that costs its reserve, or from a bidder that has none -/
def Rk (g : Nat → Nat → Int) (N M : Nat) (q : Nat → Int) (m : Nat → Option Nat) : Nat → Nat → Prop
  | 0, j => q j = 0
  | n + 1, j => Rk g N M q m n j ∨ ∃ i, i < M ∧ j ∈ dem g N q i ∧ m i ≠ some j ∧ ∀ j', m i = some j' → Rk g N M q m n j'

theorem Rk.mono {g : Nat → Nat → Int} {N M : Nat} {q : Nat → Int} {m : Nat → Option Nat} {n j : Nat} (h : Rk g N M q m n j) : ∀ {n' : Nat}, n ≤ n' → Rk g N M q m n' j := by
  intro n' hn
  induction n' with
  | zero => obtain rfl : n = 0 := by omega
            exact h
  | succ n' ih =>
    rcases Nat.lt_or_ge n (n' + 1) with h1 | h1
    · exact .inl (ih (by omega))
    · obtain rfl : n = n' + 1 := by omega
      exact h

/-- the prices are the least of those at which nobody is left out -/
def Lowest (g : Nat → Nat → Int) (N M : Nat) (q : Nat → Int) : Prop := ∀ q' : Nat → Int, (∀ k, k < N → 0 ≤ q' k) → Cover g N M q' → ∀ k, k < N → q k ≤ q' k

/-- then each item has a reason -/
theorem Valid.ranked {g : Nat → Nat → Int} {N M : Nat} {q : Nat → Int} {m : Nat → Option Nat} (h : Valid g N M q m) (hq : ∀ k, k < N → 0 ≤ q k) (hl : Lowest g N M q) {j : Nat} (hj : j < N) : ∃ n, Rk g N M q m n j := by
  apply Classical.byContradiction
  intro hno
  have hno' : ∀ n, ¬ Rk g N M q m n j := fun n hn => hno ⟨n, hn⟩
  have hdec : ∀ k, Decidable (∃ n, Rk g N M q m n k) := fun k => Classical.propDecidable _
  obtain ⟨q', hq'⟩ : ∃ q' : Nat → Int, ∀ k, ((∃ n, Rk g N M q m n k) → q' k = q k) ∧ ((∀ n, ¬ Rk g N M q m n k) → q' k = q k - 1) := by
    refine ⟨fun k => @ite _ (∃ n, Rk g N M q m n k) (hdec k) (q k) (q k - 1), fun k => ⟨fun h => ?_, fun h => ?_⟩⟩
    · simp only [if_pos h]
    · have : ¬ ∃ n, Rk g N M q m n k := fun ⟨n, hn⟩ => h n hn
      simp only [if_neg this]
  have hstep : ∀ k, q' k = q k ∨ (q' k = q k - 1 ∧ ∀ n, ¬ Rk g N M q m n k) := fun k => by
    rcases Classical.em (∃ n, Rk g N M q m n k) with h | h
    · exact .inl ((hq' k).1 h)
    · have : ∀ n, ¬ Rk g N M q m n k := fun n hn => h ⟨n, hn⟩
      exact .inr ⟨(hq' k).2 this, this⟩
  have hpos : ∀ k, k < N → 0 ≤ q' k := fun k hk => by
    have := hq k hk
    rcases hstep k with h | ⟨h, hn⟩
    · omega
    · have : q k ≠ 0 := hn 0
      omega
  have hcov : Cover g N M q' := by
    refine ⟨m, h.inj, fun i hi hp => ?_⟩
    -- an item without a reason that i has
    have hown : ∀ k, m i = some k → (∀ n, ¬ Rk g N M q m n k) → ∃ k, m i = some k ∧ k ∈ Sale.dem g N q' i := fun k hk hn => by
      obtain ⟨h1, h2⟩ := mem_dem.1 (h.dem i hi k hk)
      have e := (hq' k).2 hn
      refine ⟨k, hk, mem_dem.2 ⟨h1, ?_⟩⟩
      rw [top_eq (u := Sale.top g N q i + 1) (by have := top_nonneg g N q i; omega) (fun x hx => ?_) (.inr ⟨k, h1, by omega⟩)]
      · omega
      · have := top_ge (g := g) (q := q) (i := i) hx
        rcases hstep x with h | ⟨h, _⟩ <;> omega
    by_cases hA : ∃ x, x ∈ Sale.dem g N q i ∧ m i ≠ some x ∧ ∀ n, ¬ Rk g N M q m n x
    · obtain ⟨x, hxd, hxm, hxn⟩ := hA
      cases hm : m i with
      | none => exact absurd (Or.inr ⟨i, hi, hxd, hxm, fun j' e => by rw [hm] at e; cases e⟩) (hxn (0 + 1))
      | some k =>
        rw [← hm]
        exact hown k hm fun n hn => hxn (n + 1) (.inr ⟨i, hi, hxd, hxm, fun j' e => by rw [hm] at e; cases e; exact hn⟩)
    · have hlow : ∀ x, x < N → m i ≠ some x → g i x - q' x ≤ Sale.top g N q i := fun x hx hxm => by
        have h1 := top_ge (g := g) (q := q) (i := i) hx
        rcases hstep x with h2 | ⟨h2, h3⟩
        · omega
        · have : g i x - q x ≠ Sale.top g N q i := fun e => hA ⟨x, mem_dem.2 ⟨hx, e⟩, hxm, h3⟩
          omega
      cases hm : m i with
      | none =>
        have h0 := h.none i hi hm
        have : Sale.top g N q' i = 0 := top_eq (Int.le_refl 0) (fun x hx => by have := hlow x hx (by rw [hm]; simp); omega) (.inl rfl)
        omega
      | some k =>
        rw [← hm]
        rcases hstep k with h2 | ⟨_, h3⟩
        · obtain ⟨h1, h4⟩ := mem_dem.1 (h.dem i hi k hm)
          refine ⟨k, hm, mem_dem.2 ⟨h1, ?_⟩⟩
          rw [top_eq (u := Sale.top g N q i) (top_nonneg _ _ _ _) (fun x hx => ?_) (.inr ⟨k, h1, by omega⟩)]
          · omega
          · by_cases e : m i = some x
            · rw [hm] at e; cases e; omega
            · exact hlow x hx e
        · exact hown k hm h3
  have := hl q' hpos hcov j hj
  have := (hq' j).2 hno'
  omega

/-- what was sold, and one item more: from an item by its reasons to one that costs its reserve, or to a bidder that has none -/
theorem Valid.shift {g : Nat → Nat → Int} {N M : Nat} {q : Nat → Int} : ∀ (n : Nat) (m : Nat → Option Nat) (j : Nat), Valid g N M q m → j < N → 0 < q j → (∀ i, i < M → m i ≠ some j) → Rk g N M q m n j →
    ∃ m', Valid g N M q m' ∧ ∀ k, 0 < q k → ((∃ i, i < M ∧ m' i = some k) ↔ k = j ∨ ∃ i, i < M ∧ m i = some k)
  | 0, m, j, _, _, hp, _, hr => by have : q j = 0 := hr; omega
  | n + 1, m, j, hv, hj, hp, hfree, hr => by
    by_cases hrn : Rk g N M q m n j
    · exact Valid.shift n m j hv hj hp hfree hrn
    · rcases hr with hr | ⟨i, hi, hd, hne, hreason⟩
      · exact absurd hr hrn
      · -- i takes j
        have hv' : Valid g N M q (upd m i (some j)) := by
          refine ⟨⟨fun x hx k hk => ?_, fun x hx y hy k hxk hyk => ?_⟩, fun x hx k hk => ?_, fun x hx hn => ?_⟩
          · by_cases e : x = i
            · subst e; rw [upd_same] at hk; cases hk; exact hj
            · rw [upd_other e] at hk; exact hv.inj.lt x hx k hk
          · by_cases e : x = i <;> by_cases e' : y = i
            · rw [e, e']
            · subst e; rw [upd_same] at hxk; rw [upd_other e'] at hyk; cases hxk; exact absurd hyk (hfree y hy)
            · subst e'; rw [upd_same] at hyk; rw [upd_other e] at hxk; cases hyk; exact absurd hxk (hfree x hx)
            · rw [upd_other e] at hxk; rw [upd_other e'] at hyk; exact hv.inj.one x hx y hy k hxk hyk
          · by_cases e : x = i
            · subst e; rw [upd_same] at hk; cases hk; exact hd
            · rw [upd_other e] at hk; exact hv.dem x hx k hk
          · by_cases e : x = i
            · subst e; rw [upd_same] at hn; cases hn
            · rw [upd_other e] at hn; exact hv.none x hx hn
        by_cases hend : ∀ j1, m i = some j1 → ¬ 0 < q j1
        · refine ⟨_, hv', fun k hk => ⟨?_, ?_⟩⟩
          · rintro ⟨x, hx, e⟩
            by_cases ex : x = i
            · subst ex; rw [upd_same] at e; cases e; exact .inl rfl
            · rw [upd_other ex] at e; exact .inr ⟨x, hx, e⟩
          · rintro (rfl | ⟨x, hx, e⟩)
            · exact ⟨i, hi, upd_same _ _ _⟩
            · have ex : x ≠ i := fun ex => by subst ex; exact hend k e hk
              exact ⟨x, hx, by rw [upd_other ex]; exact e⟩
        · obtain ⟨j1, hj1, hp1⟩ : ∃ j1, m i = some j1 ∧ 0 < q j1 := by
            apply Classical.byContradiction
            intro h
            exact hend fun j1 e hp => h ⟨j1, e, hp⟩
          have hr1 := hreason j1 hj1
          -- the reasons of those that are nearer stay
          have hkeep : ∀ a, a ≤ n → ∀ k, Rk g N M q m a k → Rk g N M q (upd m i (some j)) a k := by
            intro a
            induction a with
            | zero => exact fun _ k hk => hk
            | succ a ih =>
              intro ha k hk
              rcases hk with hk | ⟨x, hx, hxd, hxm, hxr⟩
              · exact .inl (ih (by omega) k hk)
              · have hxi : x ≠ i := by
                  intro e
                  subst e
                  exact hrn (Rk.mono (n := a + 1) (.inr ⟨x, hx, hd, hne, hxr⟩) ha)
                exact .inr ⟨x, hx, hxd, by rw [upd_other hxi]; exact hxm, fun j' e => ih (by omega) j' (hxr j' (by rw [upd_other hxi] at e; exact e))⟩
          obtain ⟨m', hm', hs'⟩ := Valid.shift n (upd m i (some j)) j1 hv' (hv.inj.lt i hi j1 hj1) hp1 (fun x hx e => by
            by_cases ex : x = i
            · subst ex; rw [upd_same] at e; cases e; exact hne hj1
            · rw [upd_other ex] at e; exact ex (hv.inj.one x hx i hi j1 e hj1)) (hkeep n (Nat.le_refl _) j1 hr1)
          refine ⟨m', hm', fun k hk => ?_⟩
          rw [hs' k hk]
          constructor
          · rintro (rfl | ⟨x, hx, e⟩)
            · exact .inr ⟨i, hi, hj1⟩
            · by_cases ex : x = i
              · subst ex; rw [upd_same] at e; cases e; exact .inl rfl
              · rw [upd_other ex] at e; exact .inr ⟨x, hx, e⟩
          · rintro (rfl | ⟨x, hx, e⟩)
            · exact .inr ⟨i, hi, upd_same _ _ _⟩
            · by_cases ex : x = i
              · subst ex; rw [hj1] at e; cases e; exact .inl rfl
              · exact .inr ⟨x, hx, by rw [upd_other ex]; exact e⟩

/-- the least prices at which nobody is left out are even with some matching -/
theorem Lowest.even {g : Nat → Nat → Int} {N M : Nat} {q : Nat → Int} (hl : Lowest g N M q) (hq : ∀ k, k < N → 0 ≤ q k) (hc : Cover g N M q) : ∃ m, Even g N M q m := by
  obtain ⟨m, hv⟩ := hc.valid
  -- by how many dear items are left
  have key : ∀ (c : Nat) (m : Nat → Option Nat), Valid g N M q m → ((List.range N).filter fun k => decide (0 < q k) && !sold m M k).length ≤ c → ∃ m, Even g N M q m := by
    intro c
    induction c with
    | zero =>
      intro m hv hc
      refine ⟨m, hv.even hq fun k hk hp => ?_⟩
      have h0 : (List.range N).filter (fun k => decide (0 < q k) && !sold m M k) = [] := List.eq_nil_of_length_eq_zero (by omega)
      rw [List.filter_eq_nil_iff] at h0
      have := h0 k (List.mem_range.2 hk)
      simp only [hp, decide_true, Bool.true_and, Bool.not_eq_true', Bool.not_eq_false] at this
      exact sold_iff.1 this
    | succ c ih =>
      intro m hv hc
      rcases Classical.em (∃ j, j < N ∧ 0 < q j ∧ sold m M j = false) with ⟨j, hj, hp, hs⟩ | hno
      · obtain ⟨n, hn⟩ := hv.ranked hq hl hj
        obtain ⟨m', hv', hs'⟩ := Valid.shift n m j hv hj hp (sold_no.1 hs) hn
        refine ih m' hv' ?_
        have hsub : ∀ k, k < N → 0 < q k → (sold m' M k = true ↔ k = j ∨ sold m M k = true) := fun k _ hp => by rw [sold_iff, sold_iff]; exact hs' k hp
        have hlen : ((List.range N).filter fun k => decide (0 < q k) && !sold m' M k).length < ((List.range N).filter fun k => decide (0 < q k) && !sold m M k).length := by
          have hn2 : (j :: (List.range N).filter fun k => decide (0 < q k) && !sold m' M k).Nodup := by
            refine List.nodup_cons.2 ⟨fun hm => ?_, List.nodup_range.filter _⟩
            obtain ⟨_, h2⟩ := List.mem_filter.1 hm
            have h3 := (hsub j hj hp).2 (.inl rfl)
            rw [h3] at h2; simp at h2
          have := nodup_len hn2 (m := (List.range N).filter fun k => decide (0 < q k) && !sold m M k) fun k hk => by
            rcases List.mem_cons.1 hk with rfl | hk
            · exact List.mem_filter.2 ⟨List.mem_range.2 hj, by simp [hp, hs]⟩
            · obtain ⟨h1, h2⟩ := List.mem_filter.1 hk
              simp only [Bool.and_eq_true, decide_eq_true_eq, Bool.not_eq_true'] at h2
              refine List.mem_filter.2 ⟨h1, ?_⟩
              simp only [Bool.and_eq_true, decide_eq_true_eq, Bool.not_eq_true']
              refine ⟨h2.1, ?_⟩
              rw [← Bool.not_eq_true]
              intro e
              have := (hsub k (List.mem_range.1 h1) h2.1).2 (.inr e)
              rw [h2.2] at this; cases this
          simp only [List.length_cons] at this
          omega
        omega
      · refine ⟨m, hv.even hq fun k hk hp => ?_⟩
        cases hs : sold m M k with
        | true => exact sold_iff.1 hs
        | false => exact absurd ⟨k, hk, hp, hs⟩ hno
  exact key _ m hv (Nat.le_refl _)

/-- reasons tell the least prices: of what is even, and has them, no price is higher than that of another that is even with the same matching -/
theorem Even.lowest {g : Nat → Nat → Int} {N M : Nat} {q q' : Nat → Int} {m : Nat → Option Nat} (h : Even g N M q m) (h' : Even g N M q' m) (hle : ∀ k, k < N → q' k ≤ q k) : ∀ (n j : Nat), j < N → Rk g N M q m n j → q j ≤ q' j
  | 0, j, hj, hr => by
    have h1 : q j = 0 := hr
    have := h'.nonneg j hj
    omega
  | n + 1, j, hj, hr => by
    rcases hr with hr | ⟨i, hi, hd, hne, hreason⟩
    · exact Even.lowest h h' hle n j hj hr
    · have h1 := (mem_dem.1 hd).2
      rw [h.top hi] at h1
      have h2 := h'.best i hi j hj
      cases hm : m i with
      | none => rw [sur_none hm] at h1 h2; omega
      | some j1 =>
        have h3 := Even.lowest h h' hle n j1 (h.inj.lt i hi j1 hm) (hreason j1 hm)
        rw [sur_some hm] at h1 h2
        omega

end Sale
