/- Plain mathematics: without one that has nothing the first of the best is as it was; least prices without one are not higher; nobody who gains has nothing. -/
import Derived.Test.YtbnjeegicbffeaaSteps
namespace Sale

theorem Ahead.antisymm : ∀ {a b : List (Option Nat)}, Ahead a b → Ahead b a → a = b
  | [], [], _, _ => rfl
  | some r :: ms, some r' :: ms', h, h' => by
    rcases h with h | ⟨e, h⟩
    · rcases h' with h2 | ⟨e, _⟩
      · omega
      · omega
    · rcases h' with h2 | ⟨_, h2⟩
      · omega
      · rw [e, Ahead.antisymm h h2]
  | some _ :: _, none :: _, _, h' => h'.elim
  | none :: ms, none :: ms', h, h' => by rw [Ahead.antisymm (a := ms) (b := ms') h h']
  | none :: _, some _ :: _, h, _ => h.elim
  | [], _ :: _, h, _ => by cases h
  | some _ :: _, [], h, _ => by cases h
  | none :: _, [], h, _ => by cases h

theorem first_exists (g : Nat → Nat → Int) (n : Nat) {ls : List Nat} (hn : ls.Nodup) : ∃ m, IsFirst g n ls m := by
  refine ⟨fun i => ((firsts g n ls (fun _ => true))[ls.idxOf i]?).join, ?_, hn⟩
  have hlen := firsts_length g n ls (fun _ => true)
  apply List.ext_getElem?
  intro d
  by_cases hd : d < ls.length
  · rw [List.getElem?_map, List.getElem?_eq_getElem hd, Option.map_some]
    rw [hn.idxOf_getElem d hd]
    rw [List.getElem?_eq_getElem (by omega)]
    rfl
  · rw [List.getElem?_eq_none (by simp; omega), List.getElem?_eq_none (by omega)]

/-- without one that has nothing all stays as it was -/
theorem IsFirst.gone {g : Nat → Nat → Int} {n : Nat} {ls : List Nat} {m : Nat → Option Nat} (h : IsFirst g n ls m) {i0 : Nat} (hn : m i0 = none) : IsFirst (wipe g i0) n ls m := by
  obtain ⟨m', hm'⟩ := first_exists (wipe g i0) n h.nodup
  have hf := hm'.fits
  have hN : ∀ i, i ∈ ls → i = i0 → m' i = none := fun i hi e => by
    cases hk : m' i with
    | none => rfl
    | some k =>
      have := (hf.some i hi k hk).2.2
      rw [e, wipe_same] at this; omega
  have hfg : Fits g n ls (fun _ => true) m' := ⟨fun i hi k hk => by
    have h1 := hf.some i hi k hk
    have : i ≠ i0 := fun e => by rw [hN i hi e] at hk; cases hk
    rw [wipe_other this] at h1; exact h1, hf.inj⟩
  have hfw : Fits (wipe g i0) n ls (fun _ => true) m := ⟨fun i hi k hk => by
    have h1 := h.fits.some i hi k hk
    have : i ≠ i0 := fun e => by rw [e, hn] at hk; cases hk
    rw [wipe_other this]; exact h1, h.fits.inj⟩
  have t1 : total (wipe g i0) m' ls = total g m' ls := total_congr fun l hl => by
    unfold gain
    cases hk : m' l with
    | none => rfl
    | some r =>
      have : l ≠ i0 := fun e => by rw [hN l hl e] at hk; cases hk
      simp only [wipe_other this]
  have t2 : total (wipe g i0) m ls = total g m ls := total_wipe hn ls
  have h1 := hm'.best
  have h2 := h.best
  have h3 := total_most h.nodup hfg
  have h4 := total_most h.nodup hfw
  have a1 := h.ahead hfg (by omega)
  have a2 := hm'.ahead hfw (by omega)
  exact ⟨by rw [a1.antisymm a2]; exact hm'.eq, h.nodup⟩

/-- least prices without one are not higher -/
theorem Lowest.less {g : Nat → Nat → Int} {N M : Nat} {q q' : Nat → Int} {m : Nat → Option Nat} (h : Even g N M q m) (hl : Lowest g N M q) (i0 : Nat) (h' : Lowest (wipe g i0) N M q') : ∀ k, k < N → q' k ≤ q k := by
  obtain ⟨m', hm'⟩ := h.without hl i0
  exact h' q h.nonneg hm'.valid.cover

/-- where nobody gains all items cost nothing more, and nobody has any -/
theorem Lowest.zero {g : Nat → Nat → Int} {N M : Nat} {q : Nat → Int} (hq : ∀ k, k < N → 0 ≤ q k) (hl : Lowest g N M q) (h : ∀ i, i < M → ∀ k, k < N → g i k ≤ 0) : ∀ k, k < N → q k = 0 := fun k hk => by
  have := hl (fun _ => 0) (fun _ _ => Int.le_refl _) (cover_high h) k hk
  have := hq k hk
  omega
theorem IsFirst.zero {g : Nat → Nat → Int} {n : Nat} {ls : List Nat} {m : Nat → Option Nat} (h : IsFirst g n ls m) (hg : ∀ i, i ∈ ls → ∀ k, k < n → g i k < 0) : ∀ i, i ∈ ls → m i = none := fun i hi => by
  cases hk : m i with
  | none => rfl
  | some k =>
    have h1 := h.fits.some i hi k hk
    have := hg i hi k h1.1
    omega

/-- the first of the best, by whatever order, is even with the least prices -/
theorem IsFirst.even {g : Nat → Nat → Int} {N M : Nat} {q : Nat → Int} {ls : List Nat} {m : Nat → Option Nat} (h : IsFirst g N ls m) (hp : ls.Perm (List.range M)) (hl : Lowest g N M q) (hq : ∀ k, k < N → 0 ≤ q k) (hc : Cover g N M q) : Even g N M q m := by
  obtain ⟨m0, h0⟩ := hl.even hq hc
  have hf := h.fits.perm hp
  exact (h0.other hf.toInj (by rw [h0.opt, ← opt_perm h.nodup hp, ← h.best, total_perm hp]; exact Int.le_refl _)).1

/-- reasons and what one would have -/
theorem Even.rk_zero {g : Nat → Nat → Int} {N M : Nat} {q : Nat → Int} {m : Nat → Option Nat} (h : Even g N M q m) {i j : Nat} (hi : i < M) (hj : j < N) : j ∈ dem g N q i ↔ g i j - q j = sur g q m i := by
  rw [mem_dem, h.top hi]
  exact ⟨fun h => h.2, fun e => ⟨hj, e⟩⟩
end Sale
