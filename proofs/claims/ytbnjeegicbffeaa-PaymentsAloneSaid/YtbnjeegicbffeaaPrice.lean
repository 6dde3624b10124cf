/- Plain mathematics: without one bidder the best is less by what it has above the least prices; bounds of what is lost; nobody's bid. -/
import Derived.Test.YtbnjeegicbffeaaHall
namespace Sale
open Way (nodup_len nodup_all inj_len)

/-- gains without one bidder -/
def wipe (g : Nat → Nat → Int) (i0 : Nat) : Nat → Nat → Int := fun i k => if i = i0 then -1 else g i k
theorem wipe_same (g : Nat → Nat → Int) (i0 k : Nat) : wipe g i0 i0 k = -1 := by simp [wipe]
theorem wipe_other {g : Nat → Nat → Int} {i0 i : Nat} (h : i ≠ i0) (k : Nat) : wipe g i0 i k = g i k := by simp [wipe, h]
theorem top_wipe {g : Nat → Nat → Int} {N : Nat} {q : Nat → Int} {i0 i : Nat} (h : i ≠ i0) : top (wipe g i0) N q i = top g N q i := by
  unfold top
  congr 1
  funext k
  rw [wipe_other h]
theorem top_wiped {g : Nat → Nat → Int} {N : Nat} {q : Nat → Int} {i0 : Nat} (hq : ∀ k, k < N → 0 ≤ q k) : top (wipe g i0) N q i0 = 0 :=
  top_eq (Int.le_refl _) (fun k hk => by rw [wipe_same]; have := hq k hk; omega) (.inl rfl)
theorem dem_wipe {g : Nat → Nat → Int} {N : Nat} {q : Nat → Int} {i0 i : Nat} (h : i ≠ i0) : dem (wipe g i0) N q i = dem g N q i := by
  unfold dem
  rw [top_wipe h]
  congr 1
  funext k
  rw [wipe_other h]

theorem total_wipe {g : Nat → Nat → Int} {m : Nat → Option Nat} {i0 : Nat} (h : m i0 = none) : ∀ ls : List Nat, total (wipe g i0) m ls = total g m ls := fun ls =>
  total_congr fun l _ => by
    unfold gain
    cases hm : m l with
    | none => rfl
    | some r =>
      have : l ≠ i0 := fun e => by rw [e, h] at hm; cases hm
      simp only [wipe_other this]

/-- one that has nothing any more -/
theorem Even.less {g : Nat → Nat → Int} {N M : Nat} {q : Nat → Int} {m : Nat → Option Nat} (h : Even g N M q m) (i0 : Nat) : Valid (wipe g i0) N M q (upd m i0 none) := by
  have hv := h.valid
  refine ⟨⟨fun i hi k hk => ?_, fun i hi i' hi' k hk hk' => ?_⟩, fun i hi k hk => ?_, fun i hi hn => ?_⟩
  · by_cases e : i = i0
    · subst e; rw [upd_same] at hk; cases hk
    · rw [upd_other e] at hk; exact hv.inj.lt i hi k hk
  · by_cases e : i = i0
    · subst e; rw [upd_same] at hk; cases hk
    · by_cases e' : i' = i0
      · subst e'; rw [upd_same] at hk'; cases hk'
      · rw [upd_other e] at hk; rw [upd_other e'] at hk'; exact hv.inj.one i hi i' hi' k hk hk'
  · by_cases e : i = i0
    · subst e; rw [upd_same] at hk; cases hk
    · rw [upd_other e] at hk; rw [dem_wipe e]; exact hv.dem i hi k hk
  · by_cases e : i = i0
    · subst e; exact top_wiped h.nonneg
    · rw [upd_other e] at hn; rw [top_wipe e]; exact hv.none i hi hn

/-- WITHOUT ONE: at the least prices there is an even matching of the others -/
theorem Even.without {g : Nat → Nat → Int} {N M : Nat} {q : Nat → Int} {m : Nat → Option Nat} (h : Even g N M q m) (hl : Lowest g N M q) (i0 : Nat) : ∃ m', Even (wipe g i0) N M q m' := by
  have hv1 := h.less i0
  by_cases hend : ∃ j, m i0 = some j ∧ 0 < q j ∧ i0 < M
  · obtain ⟨j, hj, hp, hi0⟩ := hend
    have hjN := h.inj.lt i0 hi0 j hj
    -- the least rank of j
    obtain ⟨n, hn, hmin⟩ : ∃ n, Rk g N M q m n j ∧ ∀ a, a < n → ¬ Rk g N M q m a j := by
      obtain ⟨n, hn⟩ := h.valid.ranked h.nonneg hl hjN
      induction n using Nat.strongRecOn with
      | _ n ih =>
        by_cases hx : ∃ a, a < n ∧ Rk g N M q m a j
        · obtain ⟨a, ha, hr⟩ := hx
          exact ih a ha hr
        · exact ⟨n, hn, fun a ha hr => hx ⟨a, ha, hr⟩⟩
    have hkeep : ∀ a, a ≤ n → ∀ k, Rk g N M q m a k → Rk (wipe g i0) N M q (upd m i0 none) a k := by
      intro a
      induction a with
      | zero => exact fun _ k hk => hk
      | succ a ih =>
        intro ha k hk
        rcases hk with hk | ⟨x, hx, hxd, hxm, hxr⟩
        · exact .inl (ih (by omega) k hk)
        · have hxi : x ≠ i0 := by
            intro e
            subst e
            exact hmin a (by omega) (hxr j hj)
          exact .inr ⟨x, hx, by rw [dem_wipe hxi]; exact hxd, by rw [upd_other hxi]; exact hxm, fun j' e => ih (by omega) j' (hxr j' (by rw [upd_other hxi] at e; exact e))⟩
    obtain ⟨m', hv', hs'⟩ := Valid.shift n (upd m i0 none) j hv1 hjN hp (fun i hi e => by
      by_cases ei : i = i0
      · subst ei; rw [upd_same] at e; cases e
      · rw [upd_other ei] at e; exact ei (h.inj.one i hi i0 hi0 j e hj)) (hkeep n (Nat.le_refl _) j hn)
    refine ⟨m', hv'.even h.nonneg fun k hk hpk => (hs' k hpk).2 ?_⟩
    obtain ⟨i, hi, e⟩ := h.sold k hk hpk
    by_cases ei : i = i0
    · subst ei; rw [hj] at e; cases e; exact .inl rfl
    · exact .inr ⟨i, hi, by rw [upd_other ei]; exact e⟩
  · refine ⟨_, hv1.even h.nonneg fun k hk hpk => ?_⟩
    obtain ⟨i, hi, e⟩ := h.sold k hk hpk
    have ei : i ≠ i0 := fun ei => by subst ei; exact hend ⟨k, e, hpk, hi⟩
    exact ⟨i, hi, by rw [upd_other ei]; exact e⟩

/-- without one the best is less by what it has above the least prices -/
theorem Even.price {g : Nat → Nat → Int} {N M : Nat} {q : Nat → Int} {m : Nat → Option Nat} (h : Even g N M q m) (hl : Lowest g N M q) {i0 : Nat} (hi0 : i0 < M) :
    Sale.opt (wipe g i0) N (List.range M) (fun _ => true) = Sale.total g m (List.range M) - sur g q m i0 := by
  obtain ⟨m', h'⟩ := h.without hl i0
  rw [← h'.opt, h'.total, h.total]
  have e : sumN (sur (wipe g i0) q m') M = sumN (fun i => if i = i0 then 0 else sur g q m i) M := sumN_congr fun i hi => by
    rw [← h'.top hi]
    by_cases e : i = i0
    · subst e; rw [if_pos rfl, top_wiped h.nonneg]
    · rw [if_neg e, top_wipe e, h.top hi]
  rw [e, sumN_one hi0]
  omega

/-! ### what others lose by one -/
theorem val_wipe {g : Nat → Nat → Int} {n : Nat} {i0 : Nat} {ls : List Nat} {av : Nat → Bool} {P : List (Nat × Nat)} (h : Mat (wipe g i0) n ls av P) : Mat g n ls av P ∧ val (wipe g i0) P = val g P := by
  have hne : ∀ p, p ∈ P → p.1 ≠ i0 := fun p hp e => by
    have := h.gain p hp
    rw [e, wipe_same] at this
    omega
  refine ⟨⟨h.left, h.right, fun p hp => by rw [← wipe_other (g := g) (hne p hp)]; exact h.gain p hp, h.fsts, h.snds⟩, ?_⟩
  clear h
  induction P with
  | nil => rfl
  | cons p P ih => rw [val, val, wipe_other (hne p List.mem_cons_self), ih fun p' hp' => hne p' (List.mem_cons_of_mem _ hp')]
theorem opt_wipe_le {g : Nat → Nat → Int} {n : Nat} (i0 : Nat) (ls : List Nat) (av : Nat → Bool) (hn : ls.Nodup) : opt (wipe g i0) n ls av ≤ opt g n ls av := by
  obtain ⟨P, hM, hv⟩ := opt_had (g := wipe g i0) (n := n) ls av hn
  obtain ⟨h1, h2⟩ := val_wipe hM
  rw [← hv, h2]
  exact opt_most ls h1

/-- what all have but one -/
def others (g : Nat → Nat → Int) (m : Nat → Option Nat) (i0 M : Nat) : Int := total g (upd m i0 none) (List.range M)
theorem others_eq {g : Nat → Nat → Int} {m : Nat → Option Nat} {i0 M : Nat} (h : i0 < M) : others g m i0 M = total g m (List.range M) - gain g m i0 := by
  have := total_upd (g := g) (m := m) (i := i0) (o := none) List.nodup_range (List.mem_range.2 h)
  have e : gain g (upd m i0 none) i0 = 0 := by unfold gain; rw [upd_same]
  unfold others
  omega
theorem Fits.less {g : Nat → Nat → Int} {n : Nat} {ls : List Nat} {av : Nat → Bool} {m : Nat → Option Nat} (h : Fits g n ls av m) (i0 : Nat) : Fits (wipe g i0) n ls av (upd m i0 none) := by
  refine ⟨fun i hi k hk => ?_, fun i hi i' hi' k hk hk' => ?_⟩
  · by_cases e : i = i0
    · subst e; rw [upd_same] at hk; cases hk
    · rw [upd_other e] at hk; rw [wipe_other e]; exact h.some i hi k hk
  · by_cases e : i = i0
    · subst e; rw [upd_same] at hk; cases hk
    · by_cases e' : i' = i0
      · subst e'; rw [upd_same] at hk'; cases hk'
      · rw [upd_other e] at hk; rw [upd_other e'] at hk'; exact h.inj i hi i' hi' k hk hk'
/-- what others lose by one -/
def lostBy (g : Nat → Nat → Int) (N M : Nat) (m : Nat → Option Nat) (i0 : Nat) : Int := opt (wipe g i0) N (List.range M) (fun _ => true) - others g m i0 M
theorem lost_nonneg {g : Nat → Nat → Int} {N M : Nat} {m : Nat → Option Nat} (h : Fits g N (List.range M) (fun _ => true) m) (i0 : Nat) : 0 ≤ lostBy g N M m i0 := by
  have h1 := total_most List.nodup_range (h.less i0)
  rw [total_wipe (upd_same _ _ _)] at h1
  unfold lostBy others
  omega
theorem lost_none {g : Nat → Nat → Int} {N M : Nat} {m : Nat → Option Nat} (h : Fits g N (List.range M) (fun _ => true) m) (hb : total g m (List.range M) = opt g N (List.range M) (fun _ => true)) {i0 : Nat} (hn : m i0 = none) : lostBy g N M m i0 = 0 := by
  have h1 := lost_nonneg h i0
  have h2 := opt_wipe_le (g := g) (n := N) i0 (List.range M) (fun _ => true) List.nodup_range
  have e : upd m i0 none = m := by
    funext x
    by_cases e : x = i0
    · subst e; rw [upd_same, hn]
    · rw [upd_other e]
  unfold lostBy others at h1 ⊢
  rw [e] at h1 ⊢
  omega
theorem lost_gain {g : Nat → Nat → Int} {N M : Nat} {m : Nat → Option Nat} (hb : total g m (List.range M) = opt g N (List.range M) (fun _ => true)) {i0 : Nat} (hi : i0 < M) : lostBy g N M m i0 ≤ gain g m i0 := by
  have h2 := opt_wipe_le (g := g) (n := N) i0 (List.range M) (fun _ => true) List.nodup_range
  unfold lostBy
  rw [others_eq hi]
  omega
theorem others_nonneg {g : Nat → Nat → Int} {N M : Nat} {m : Nat → Option Nat} (h : Fits g N (List.range M) (fun _ => true) m) (i0 : Nat) : 0 ≤ others g m i0 M := by
  have h1 := h.less i0
  unfold others
  have : ∀ ls : List Nat, (∀ l, l ∈ ls → l ∈ List.range M) → 0 ≤ total g (upd m i0 none) ls := by
    intro ls
    induction ls with
    | nil => intro _; exact Int.le_refl _
    | cons l ls ih =>
      intro hl
      have h2 := ih fun x hx => hl x (List.mem_cons_of_mem _ hx)
      have h3 : 0 ≤ gain g (upd m i0 none) l := by
        unfold gain
        cases hm : upd m i0 none l with
        | none => exact Int.le_refl _
        | some r =>
          have := h1.some l (hl l List.mem_cons_self) r hm
          have hne : l ≠ i0 := fun e => by rw [e, upd_same] at hm; cases hm
          rw [wipe_other hne] at this
          exact this.2.2
      rw [total]; omega
  exact this _ fun _ h => h

/-- who bids alone for all that it would have loses others nothing -/
theorem lost_alone {g : Nat → Nat → Int} {N M : Nat} {m : Nat → Option Nat} (h : Fits g N (List.range M) (fun _ => true) m) (hb : total g m (List.range M) = opt g N (List.range M) (fun _ => true)) {i0 : Nat} (hi : i0 < M)
    (hal : ∀ b, b < M → b ≠ i0 → ∀ k, k < N → g b k < 0 ∨ g i0 k < 0) : lostBy g N M m i0 = 0 := by
  have h0 := lost_nonneg h i0
  -- the best of the others, and what it has
  obtain ⟨m', hm'⟩ : ∃ m', IsFirst (wipe g i0) N (List.range M) m' := by
    refine ⟨fun i => ((firsts (wipe g i0) N (List.range M) (fun _ => true))[i]?).join, ?_, List.nodup_range⟩
    have hlen := firsts_length (wipe g i0) N (List.range M) (fun _ => true)
    apply List.ext_getElem?
    intro d
    rw [List.getElem?_map]
    by_cases hd : d < M
    · rw [List.getElem?_range hd]
      simp only [Option.map_some]
      have : d < (firsts (wipe g i0) N (List.range M) (fun _ => true)).length := by rw [hlen]; simpa using hd
      rw [List.getElem?_eq_getElem this]; rfl
    · rw [List.getElem?_eq_none (by simp; omega), List.getElem?_eq_none (by rw [hlen]; simp; omega)]; rfl
  have hf := hm'.fits
  have hn : m' i0 = none := by
    cases e : m' i0 with
    | none => rfl
    | some k =>
      have := (hf.some i0 (List.mem_range.2 hi) k e).2.2
      rw [wipe_same] at this; omega
  have hfits : Fits g N (List.range M) (fun _ => true) (upd m' i0 (m i0)) := by
    refine ⟨fun i him k hk => ?_, fun i him i' him' k hk hk' => ?_⟩
    · by_cases e : i = i0
      · subst e; rw [upd_same] at hk; exact h.some i him k hk
      · rw [upd_other e] at hk
        have := hf.some i him k hk
        rw [wipe_other e] at this
        exact this
    · have aux : ∀ a, a ∈ List.range M → a ≠ i0 → m i0 = some k → m' a = some k → False := fun a ha hne h1 h2 => by
        have o1 := h.some i0 (List.mem_range.2 hi) k h1
        have o2 := hf.some a ha k h2
        rw [wipe_other hne] at o2
        rcases hal a (List.mem_range.1 ha) hne k o1.1 with h3 | h3
        · omega
        · omega
      by_cases e : i = i0 <;> by_cases e' : i' = i0
      · rw [e, e']
      · subst e; rw [upd_same] at hk; rw [upd_other e'] at hk'; exact (aux i' him' e' hk hk').elim
      · subst e'; rw [upd_same] at hk'; rw [upd_other e] at hk; exact (aux i him e hk' hk).elim
      · rw [upd_other e] at hk; rw [upd_other e'] at hk'; exact hf.inj i him i' him' k hk hk'
  have h1 := total_most List.nodup_range hfits
  have h2 := total_upd (g := g) (m := m') (i := i0) (o := m i0) List.nodup_range (List.mem_range.2 hi)
  have e1 : gain g m' i0 = 0 := by unfold gain; rw [hn]
  have e2 : gain g (upd m' i0 (m i0)) i0 = gain g m i0 := by unfold gain; rw [upd_same]
  have h3 := hm'.best
  rw [total_wipe hn] at h3
  unfold lostBy at *
  rw [others_eq hi] at *
  omega
end Sale
