/- Plain mathematics: the first of the best: one more pair; other names; what others have of what is left; gains as often as great; an idle item, an idle bidder. -/
import Derived.Test.YtbnjeegicbffeaaHas
namespace Sale

def upd (m : Nat → Option Nat) (i : Nat) (o : Option Nat) : Nat → Option Nat := fun x => if x = i then o else m x
theorem upd_same (m : Nat → Option Nat) (i : Nat) (o : Option Nat) : upd m i o i = o := by simp [upd]
theorem upd_other {m : Nat → Option Nat} {i x : Nat} {o : Option Nat} (h : x ≠ i) : upd m i o x = m x := by simp [upd, h]

theorem total_upd {g : Nat → Nat → Int} {m : Nat → Option Nat} {i : Nat} {o : Option Nat} : ∀ {ls : List Nat}, ls.Nodup → i ∈ ls → total g (upd m i o) ls + gain g m i = total g m ls + gain g (upd m i o) i
  | l :: ls, hn, hi => by
    obtain ⟨hl, hn⟩ := List.nodup_cons.1 hn
    simp only [total]
    rcases List.mem_cons.1 hi with rfl | hi
    · rw [show total g (upd m i o) ls = total g m ls from total_congr fun x hx => by
        have : x ≠ i := fun e => hl (e ▸ hx)
        simp only [gain, upd_other this]]
      omega
    · have := total_upd (g := g) (m := m) (o := o) hn hi
      have hne : l ≠ i := fun e => hl (e ▸ hi)
      rw [show gain g (upd m i o) l = gain g m l by simp only [gain, upd_other hne]]
      omega

theorem fits_upd {g : Nat → Nat → Int} {n : Nat} {ls : List Nat} {av : Nat → Bool} {m : Nat → Option Nat} (h : Fits g n ls av m) {i k : Nat} (hk : k < n) (ha : av k = true) (hg : 0 ≤ g i k) (hfree : ∀ x, x ∈ ls → m x ≠ some k) :
    Fits g n ls av (upd m i (some k)) := by
  refine ⟨fun l hl r hr => ?_, fun l hl l' hl' r hr hr' => ?_⟩
  · by_cases e : l = i
    · subst e
      rw [upd_same] at hr
      obtain rfl := Option.some.inj hr
      exact ⟨hk, ha, hg⟩
    · rw [upd_other e] at hr
      exact h.some l hl r hr
  · by_cases e : l = i <;> by_cases e' : l' = i
    · rw [e, e']
    · subst e
      rw [upd_same] at hr
      rw [upd_other e', ← Option.some.inj hr] at hr'
      exact absurd hr' (hfree l' hl')
    · subst e'
      rw [upd_same] at hr'
      rw [upd_other e, ← Option.some.inj hr'] at hr
      exact absurd hr (hfree l hl)
    · rw [upd_other e] at hr
      rw [upd_other e'] at hr'
      exact h.inj l hl l' hl' r hr hr'

/-- an item that is left: who has none does not gain by it -/
theorem IsFirst.none_left {g : Nat → Nat → Int} {n : Nat} {ls : List Nat} {m : Nat → Option Nat} (h : IsFirst g n ls m) {i k : Nat} (hi : i ∈ ls) (hk : k < n) (hfree : ∀ x, x ∈ ls → m x ≠ some k) (hm : m i = none) : g i k < 0 := by
  rcases Int.lt_or_le (g i k) 0 with hg | hg
  · exact hg
  · exfalso
    have hf := fits_upd h.fits (i := i) hk rfl hg hfree
    have h1 := total_most h.nodup hf
    have h2 := total_upd (g := g) (m := m) (o := some k) h.nodup hi
    have h3 := h.best
    have h4 : gain g m i = 0 := by simp [gain, hm]
    have h5 : gain g (upd m i (some k)) i = g i k := by simp [gain, upd_same]
    have ht : total g (upd m i (some k)) ls = opt g n ls (fun _ => true) := by omega
    obtain ⟨d, hd⟩ := List.mem_iff_getElem?.1 hi
    have hne : m i ≠ upd m i (some k) i := by rw [hm, upd_same]; simp
    have hnd : ∀ y, y ∈ ls.take d → y ≠ i := by
      intro y hy e
      subst e
      have hn := h.nodup
      rw [← List.take_append_drop d ls] at hn
      have : y ∈ ls.drop d := List.mem_iff_getElem?.2 ⟨0, by simpa using hd⟩
      exact (List.nodup_append.1 hn).2.2 y hy y this rfl
    obtain ⟨r, hr, _⟩ := (h.ahead hf ht).parts hd (fun y hy => by rw [upd_other (hnd y hy)]) hne
    rw [hm] at hr; cases hr

/-- .. and who has one would gain no more by it -/
theorem IsFirst.no_more {g : Nat → Nat → Int} {n : Nat} {ls : List Nat} {m : Nat → Option Nat} (h : IsFirst g n ls m) {i k r : Nat} (hi : i ∈ ls) (hk : k < n) (hfree : ∀ x, x ∈ ls → m x ≠ some k) (hm : m i = some r) : g i k ≤ g i r := by
  rcases Int.lt_or_le (g i r) (g i k) with hg | hg
  · exfalso
    have h0 := (h.fits.some i hi r hm).2.2
    have hf := fits_upd h.fits (i := i) hk rfl (by omega) hfree
    have h1 := total_most h.nodup hf
    have h2 := total_upd (g := g) (m := m) (o := some k) h.nodup hi
    have h3 := h.best
    have h4 : gain g m i = g i r := by simp [gain, hm]
    have h5 : gain g (upd m i (some k)) i = g i k := by simp [gain, upd_same]
    omega
  · exact hg

/-! ### other names -/
theorem opt_named {g g' : Nat → Nat → Int} {n : Nat} {f : Nat → Nat} : ∀ (ls : List Nat) (av : Nat → Bool), (∀ l, l ∈ ls → ∀ r, r < n → g' (f l) r = g l r) → opt g' n (ls.map f) av = opt g n ls av
  | [], _, _ => rfl
  | l :: ls, av, h => by
    have hm : l ∈ l :: ls := List.mem_cons_self
    have ih : ∀ bv, opt g' n (ls.map f) bv = opt g n ls bv := fun bv => opt_named ls bv fun x hx => h x (List.mem_cons_of_mem _ hx)
    rw [List.map_cons, opt_cons, opt_cons, ih av]
    refine foldMax_congr _ _ (fun r hr => ?_) (fun r hr _ => ?_)
    · rw [h l hm r (List.mem_range.1 hr)]
    · rw [h l hm r (List.mem_range.1 hr), ih]

theorem choose_named {g g' : Nat → Nat → Int} {n l : Nat} {f : Nat → Nat} {ls : List Nat} {av : Nat → Bool} (h : ∀ x, x ∈ l :: ls → ∀ r, r < n → g' (f x) r = g x r) : choose g' n (f l) (ls.map f) av = choose g n l ls av := by
  unfold choose
  refine find_congr _ fun r hr => ?_
  rw [h l List.mem_cons_self r (List.mem_range.1 hr), opt_named ls _ fun x hx => h x (List.mem_cons_of_mem _ hx), ← List.map_cons, opt_named (l :: ls) _ h]

theorem firsts_named {g g' : Nat → Nat → Int} {n : Nat} {f : Nat → Nat} : ∀ (ls : List Nat) (av : Nat → Bool), (∀ l, l ∈ ls → ∀ r, r < n → g' (f l) r = g l r) → firsts g' n (ls.map f) av = firsts g n ls av
  | [], _, _ => rfl
  | l :: ls, av, h => by
    rw [List.map_cons]
    unfold firsts
    rw [choose_named h]
    cases choose g n l ls av with
    | none => simp only; rw [firsts_named ls av fun x hx => h x (List.mem_cons_of_mem _ hx)]
    | some r => simp only; rw [firsts_named ls (less av r) fun x hx => h x (List.mem_cons_of_mem _ hx)]

end Sale
