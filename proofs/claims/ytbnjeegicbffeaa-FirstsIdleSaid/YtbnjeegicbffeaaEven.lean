/- Plain mathematics: prices that are even with who has what: what such a matching gains, and which others are even with the same prices. Prices are counted from the reserves on. -/
import Derived.Test.YtbnjeegicbffeaaWay2
namespace Sale

/-! ### sums -/
def sumN (f : Nat → Int) : Nat → Int
  | 0 => 0
  | n + 1 => sumN f n + f n

theorem sumN_congr {f f' : Nat → Int} : ∀ {n : Nat}, (∀ k, k < n → f k = f' k) → sumN f n = sumN f' n
  | 0, _ => rfl
  | n + 1, h => by simp only [sumN]; rw [sumN_congr fun k hk => h k (by omega), h n (by omega)]
theorem sumN_le {f f' : Nat → Int} : ∀ {n : Nat}, (∀ k, k < n → f k ≤ f' k) → sumN f n ≤ sumN f' n
  | 0, _ => Int.le_refl 0
  | n + 1, h => by
    have h1 := sumN_le (n := n) fun k hk => h k (by omega)
    have h2 := h n (by omega)
    simp only [sumN]; omega
theorem sumN_add (f f' : Nat → Int) : ∀ n : Nat, sumN (fun k => f k + f' k) n = sumN f n + sumN f' n
  | 0 => rfl
  | n + 1 => by simp only [sumN]; rw [sumN_add f f' n]; omega
theorem sumN_sub (f f' : Nat → Int) : ∀ n : Nat, sumN (fun k => f k - f' k) n = sumN f n - sumN f' n
  | 0 => rfl
  | n + 1 => by simp only [sumN]; rw [sumN_sub f f' n]; omega
theorem sumN_zero {f : Nat → Int} {n : Nat} (h : ∀ k, k < n → f k = 0) : sumN f n = 0 := by
  induction n with
  | zero => rfl
  | succ n ih => simp only [sumN]; rw [ih fun k hk => h k (by omega), h n (by omega)]; rfl
theorem sumN_nonneg {f : Nat → Int} {n : Nat} (h : ∀ k, k < n → 0 ≤ f k) : 0 ≤ sumN f n := by
  have := sumN_le (f := fun _ => 0) (f' := f) h
  rwa [sumN_zero fun _ _ => rfl] at this
/-- where no one is above, and the sums are the same, all are the same -/
theorem sumN_same {f f' : Nat → Int} : ∀ {n : Nat}, (∀ k, k < n → f k ≤ f' k) → sumN f' n ≤ sumN f n → ∀ k, k < n → f k = f' k
  | 0, _, _, k, hk => absurd hk (by omega)
  | n + 1, h, hs, k, hk => by
    simp only [sumN] at hs
    have h1 := sumN_le (n := n) fun k hk => h k (by omega)
    have h2 := h n (by omega)
    rcases Nat.lt_or_ge k n with hlt | hge
    · exact sumN_same (n := n) (fun k hk => h k (by omega)) (by omega) k hlt
    · obtain rfl : k = n := by omega
      omega
theorem sumN_one {f : Nat → Int} {j : Nat} {a : Int} : ∀ {n : Nat}, j < n → sumN (fun k => if k = j then a else f k) n = sumN f n - f j + a
  | n + 1, h => by
    simp only [sumN]
    rcases Nat.lt_or_ge j n with hlt | hge
    · rw [sumN_one hlt, if_neg (by omega)]; omega
    · obtain rfl : j = n := by omega
      rw [if_pos rfl, sumN_congr (f' := f) fun k hk => if_neg (by omega)]; omega

theorem total_sum (g : Nat → Nat → Int) (m : Nat → Option Nat) : ∀ M : Nat, total g m (List.range M) = sumN (gain g m) M
  | 0 => rfl
  | M + 1 => by rw [List.range_succ, total_append, total_sum g m M]; simp [sumN, total]

/-! ### what is sold -/
/-- has one of the first M item k? -/
def sold (m : Nat → Option Nat) (M k : Nat) : Bool := (List.range M).any fun i => m i == some k
theorem sold_iff {m : Nat → Option Nat} {M k : Nat} : sold m M k = true ↔ ∃ i, i < M ∧ m i = some k := by
  simp [sold, List.any_eq_true]
theorem sold_no {m : Nat → Option Nat} {M k : Nat} : sold m M k = false ↔ ∀ i, i < M → m i ≠ some k := by
  rw [← Bool.not_eq_true, sold_iff]; simp

/-- what a bidder's item costs -/
def cost (q : Nat → Int) (m : Nat → Option Nat) (i : Nat) : Int := match m i with | some k => q k | none => 0
/-- what a bidder has by its item, above its price -/
def sur (g : Nat → Nat → Int) (q : Nat → Int) (m : Nat → Option Nat) (i : Nat) : Int := gain g m i - cost q m i

theorem sur_some {g : Nat → Nat → Int} {q : Nat → Int} {m : Nat → Option Nat} {i k : Nat} (h : m i = some k) : sur g q m i = g i k - q k := by simp [sur, gain, cost, h]
theorem sur_none {g : Nat → Nat → Int} {q : Nat → Int} {m : Nat → Option Nat} {i : Nat} (h : m i = none) : sur g q m i = 0 := by simp [sur, gain, cost, h]

structure Inj (m : Nat → Option Nat) (M N : Nat) : Prop where
  lt : ∀ i, i < M → ∀ k, m i = some k → k < N
  one : ∀ i, i < M → ∀ i', i' < M → ∀ k, m i = some k → m i' = some k → i = i'

theorem Fits.toInj {g : Nat → Nat → Int} {N M : Nat} {m : Nat → Option Nat} (h : Fits g N (List.range M) (fun _ => true) m) : Inj m M N :=
  ⟨fun i hi k hk => (h.some i (List.mem_range.2 hi) k hk).1, fun i hi i' hi' k => h.inj i (List.mem_range.2 hi) i' (List.mem_range.2 hi') k⟩

theorem cost_sum {q : Nat → Int} {m : Nat → Option Nat} {N : Nat} : ∀ {M : Nat}, Inj m M N → sumN (cost q m) M = sumN (fun k => if sold m M k = true then q k else 0) N
  | 0, _ => by rw [sumN_zero (n := N)]; · rfl
               · intro k _; simp [sold]
  | M + 1, h => by
    have h' : Inj m M N := ⟨fun i hi => h.lt i (by omega), fun i hi i' hi' => h.one i (by omega) i' (by omega)⟩
    simp only [sumN]
    rw [cost_sum h']
    have hs : ∀ k, sold m (M + 1) k = (sold m M k || m M == some k) := fun k => by simp [sold, List.range_succ]
    cases hm : m M with
    | none =>
      rw [show cost q m M = 0 by simp [cost, hm], Int.add_zero]
      exact sumN_congr fun k _ => by rw [hs, hm]; simp
    | some j =>
      have hj := h.lt M (by omega) j hm
      have hns : sold m M j = false := sold_no.2 fun i hi e => by have := h.one i (by omega) M (by omega) j e hm; omega
      rw [show cost q m M = q j by simp [cost, hm]]
      have e : sumN (fun k => if sold m (M + 1) k = true then q k else 0) N = sumN (fun k => if k = j then q j else if sold m M k = true then q k else 0) N := by
        refine sumN_congr fun k _ => ?_
        rw [hs, hm]
        by_cases e : k = j
        · subst e; simp
        · have : (some j == some k) = false := by simp [Ne.symm e]
          rw [this, Bool.or_false, if_neg e]
      rw [e, sumN_one hj, hns]; simp

theorem sur_sum {g : Nat → Nat → Int} {q : Nat → Int} {m : Nat → Option Nat} {N M : Nat} (h : Inj m M N) : total g m (List.range M) = sumN (sur g q m) M + sumN (fun k => if sold m M k = true then q k else 0) N := by
  rw [total_sum, ← cost_sum h, show sur g q m = fun i => gain g m i - cost q m i from rfl, sumN_sub]; omega

/-! ### even -/
/-- q: prices above the reserves; m: who has what -/
structure Even (g : Nat → Nat → Int) (N M : Nat) (q : Nat → Int) (m : Nat → Option Nat) : Prop where
  nonneg : ∀ k, k < N → 0 ≤ q k
  inj : Inj m M N
  zero : ∀ i, i < M → 0 ≤ sur g q m i
  best : ∀ i, i < M → ∀ k, k < N → g i k - q k ≤ sur g q m i
  sold : ∀ k, k < N → 0 < q k → ∃ i, i < M ∧ m i = some k

theorem Even.fits {g : Nat → Nat → Int} {N M : Nat} {q : Nat → Int} {m : Nat → Option Nat} (h : Even g N M q m) : Fits g N (List.range M) (fun _ => true) m := by
  refine ⟨fun i hi k hk => ?_, fun i hi i' hi' k => h.inj.one i (List.mem_range.1 hi) i' (List.mem_range.1 hi') k⟩
  have hi := List.mem_range.1 hi
  have h1 := h.inj.lt i hi k hk
  have h2 := h.zero i hi
  have h3 := h.nonneg k h1
  rw [sur_some hk] at h2
  exact ⟨h1, rfl, by omega⟩

/-- what some have gained is what they have above the prices, and the prices -/
theorem Even.total {g : Nat → Nat → Int} {N M : Nat} {q : Nat → Int} {m : Nat → Option Nat} (h : Even g N M q m) : Sale.total g m (List.range M) = sumN (sur g q m) M + sumN q N := by
  rw [sur_sum (q := q) h.inj]
  congr 1
  refine sumN_congr fun k hk => ?_
  by_cases hs : Sale.sold m M k = true
  · rw [if_pos hs]
  · rw [if_neg hs]
    have := h.nonneg k hk
    rcases Int.lt_or_le 0 (q k) with h1 | h1
    · exact absurd (sold_iff.2 (h.sold k hk h1)) hs
    · omega

/-- no other gains more -/
theorem Even.most {g : Nat → Nat → Int} {N M : Nat} {q : Nat → Int} {m m' : Nat → Option Nat} (h : Even g N M q m) (hf : Inj m' M N) : Sale.total g m' (List.range M) ≤ Sale.total g m (List.range M) := by
  rw [h.total, sur_sum (q := q) hf]
  have h1 : sumN (sur g q m') M ≤ sumN (sur g q m) M := sumN_le fun i hi => by
    cases hm : m' i with
    | none => rw [sur_none hm]; exact h.zero i hi
    | some k => rw [sur_some hm]; exact h.best i hi k (hf.lt i hi k hm)
  have h2 : sumN (fun k => if Sale.sold m' M k = true then q k else 0) N ≤ sumN q N := sumN_le fun k hk => by
    split
    · exact Int.le_refl _
    · exact h.nonneg k hk
  omega

theorem Even.opt {g : Nat → Nat → Int} {N M : Nat} {q : Nat → Int} {m : Nat → Option Nat} (h : Even g N M q m) : Sale.total g m (List.range M) = opt g N (List.range M) (fun _ => true) := by
  refine Int.le_antisymm (total_most List.nodup_range h.fits) ?_
  obtain ⟨P, hM, hv⟩ := opt_had (g := g) (n := N) (List.range M) (fun _ => true) List.nodup_range
  have hl := firsts_mat (g := g) (n := N) (List.range M) (fun _ => true) List.nodup_range
  -- the first of the best is a matching that gains the most
  obtain ⟨m', hm'⟩ : ∃ m', IsFirst g N (List.range M) m' := by
    refine ⟨fun i => ((firsts g N (List.range M) (fun _ => true))[i]?).join, ?_, List.nodup_range⟩
    have hlen := firsts_length g N (List.range M) (fun _ => true)
    apply List.ext_getElem?
    intro d
    rw [List.getElem?_map]
    by_cases hd : d < M
    · rw [List.getElem?_range hd]
      simp only [Option.map_some]
      have : d < (firsts g N (List.range M) (fun _ => true)).length := by rw [hlen]; simpa using hd
      rw [List.getElem?_eq_getElem this]; rfl
    · rw [List.getElem?_eq_none (by simp; omega), List.getElem?_eq_none (by rw [hlen]; simp; omega)]; rfl
  rw [← hm'.best]
  exact h.most hm'.fits.toInj

/-- whoever else gains as much is even with the same prices -/
theorem Even.other {g : Nat → Nat → Int} {N M : Nat} {q : Nat → Int} {m m' : Nat → Option Nat} (h : Even g N M q m) (hf : Inj m' M N) (ht : Sale.total g m (List.range M) ≤ Sale.total g m' (List.range M)) :
    Even g N M q m' ∧ ∀ i, i < M → sur g q m' i = sur g q m i := by
  rw [h.total, sur_sum (q := q) hf] at ht
  have h1 : ∀ i, i < M → sur g q m' i ≤ sur g q m i := fun i hi => by
    cases hm : m' i with
    | none => rw [sur_none hm]; exact h.zero i hi
    | some k => rw [sur_some hm]; exact h.best i hi k (hf.lt i hi k hm)
  have h2 : ∀ k, k < N → (if Sale.sold m' M k = true then q k else 0) ≤ q k := fun k hk => by
    split
    · exact Int.le_refl _
    · exact h.nonneg k hk
  have s1 := sumN_le h1
  have s2 := sumN_le h2
  have e1 := sumN_same h1 (by omega)
  have e2 := sumN_same h2 (by omega)
  refine ⟨⟨h.nonneg, hf, fun i hi => by rw [e1 i hi]; exact h.zero i hi, fun i hi k hk => by rw [e1 i hi]; exact h.best i hi k hk, fun k hk hq => ?_⟩, e1⟩
  have := e2 k hk
  split at this
  · exact sold_iff.1 (by assumption)
  · omega

/-- what one has above the prices is the most that it can have at them -/
theorem Even.sur_eq {g : Nat → Nat → Int} {N M : Nat} {q : Nat → Int} {m m' : Nat → Option Nat} (h : Even g N M q m) (h' : Even g N M q m') {i : Nat} (hi : i < M) : sur g q m i = sur g q m' i := by
  apply Int.le_antisymm
  · cases hm : m i with
    | none => rw [sur_none hm]; exact h'.zero i hi
    | some k => rw [sur_some hm]; exact h'.best i hi k (h.inj.lt i hi k hm)
  · cases hm : m' i with
    | none => rw [sur_none hm]; exact h.zero i hi
    | some k => rw [sur_some hm]; exact h.best i hi k (h'.inj.lt i hi k hm)

/-- the lesser ones of two, and the greater ones -/
theorem Even.meet {g : Nat → Nat → Int} {N M : Nat} {q q' : Nat → Int} {m : Nat → Option Nat} (h : Even g N M q m) (h' : Even g N M q' m) : Even g N M (fun k => min (q k) (q' k)) m := by
  refine ⟨fun k hk => ?_, h.inj, fun i hi => ?_, fun i hi k hk => ?_, fun k hk hq => ?_⟩
  · have := h.nonneg k hk; have := h'.nonneg k hk; omega
  · have h1 := h.zero i hi
    have h2 := h'.zero i hi
    cases hm : m i with
    | none => rw [sur_none hm]; omega
    | some j => rw [sur_some hm] at *; omega
  · have h1 := h.best i hi k hk
    have h2 := h'.best i hi k hk
    cases hm : m i with
    | none => rw [sur_none hm] at *; omega
    | some j => rw [sur_some hm] at *; omega
  · exact h.sold k hk (by omega)

theorem Even.join {g : Nat → Nat → Int} {N M : Nat} {q q' : Nat → Int} {m : Nat → Option Nat} (h : Even g N M q m) (h' : Even g N M q' m) : Even g N M (fun k => max (q k) (q' k)) m := by
  refine ⟨fun k hk => ?_, h.inj, fun i hi => ?_, fun i hi k hk => ?_, fun k hk hq => ?_⟩
  · have := h.nonneg k hk; omega
  · have h1 := h.zero i hi
    have h2 := h'.zero i hi
    cases hm : m i with
    | none => rw [sur_none hm]; omega
    | some j => rw [sur_some hm] at *; omega
  · have h1 := h.best i hi k hk
    have h2 := h'.best i hi k hk
    cases hm : m i with
    | none => rw [sur_none hm] at *; omega
    | some j => rw [sur_some hm] at *; omega
  · rcases Int.lt_or_le 0 (q k) with h1 | h1
    · exact h.sold k hk h1
    · exact h'.sold k hk (by omega)

end Sale
