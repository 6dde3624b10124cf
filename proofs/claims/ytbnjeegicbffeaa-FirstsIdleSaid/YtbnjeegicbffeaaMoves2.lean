/- Plain mathematics: the first of the best: gains as often as great; an idle item, an idle bidder; what others have of what is left. -/
import Derived.Test.YtbnjeegicbffeaaMoves
namespace Sale

theorem map_same {m m' : Nat → Option Nat} {ls : List Nat} (h : ls.map m = ls.map m') : ∀ x, x ∈ ls → m x = m' x := List.map_inj_left.1 h

theorem IsFirst.same {g : Nat → Nat → Int} {n : Nat} {ls : List Nat} {m m' : Nat → Option Nat} (h : IsFirst g n ls m) (h' : IsFirst g n ls m') : ∀ x, x ∈ ls → m x = m' x := map_same (h.eq.trans h'.eq.symm)

/-! ### the same pairs, the same gains -/
def Alike (g g' : Nat → Nat → Int) (n : Nat) (ls : List Nat) (av av' : Nat → Bool) : Prop := ∀ l, l ∈ ls → ∀ r, r < n → ((av r = true ∧ 0 ≤ g l r) ↔ (av' r = true ∧ 0 ≤ g' l r)) ∧ (av r = true → 0 ≤ g l r → g l r = g' l r)

theorem Alike.tail {g g' : Nat → Nat → Int} {n l : Nat} {ls : List Nat} {av av' : Nat → Bool} (h : Alike g g' n (l :: ls) av av') : Alike g g' n ls av av' := fun x hx => h x (List.mem_cons_of_mem _ hx)
theorem Alike.less {g g' : Nat → Nat → Int} {n : Nat} {ls : List Nat} {av av' : Nat → Bool} (h : Alike g g' n ls av av') (r : Nat) : Alike g g' n ls (less av r) (less av' r) := by
  intro l hl k hk
  obtain ⟨h1, h2⟩ := h l hl k hk
  refine ⟨?_, fun ha hg => h2 (less_true.1 ha).1 hg⟩
  rw [less_true, less_true]
  constructor
  · rintro ⟨⟨ha, hne⟩, hg⟩
    have := h1.1 ⟨ha, hg⟩
    exact ⟨⟨this.1, hne⟩, this.2⟩
  · rintro ⟨⟨ha, hne⟩, hg⟩
    have := h1.2 ⟨ha, hg⟩
    exact ⟨⟨this.1, hne⟩, this.2⟩
theorem Alike.cond {g g' : Nat → Nat → Int} {n l : Nat} {ls : List Nat} {av av' : Nat → Bool} (h : Alike g g' n (l :: ls) av av') {r : Nat} (hr : r < n) : (av r && decide (0 ≤ g l r)) = (av' r && decide (0 ≤ g' l r)) := by
  rw [Bool.eq_iff_iff]
  simpa using (h l List.mem_cons_self r hr).1

theorem opt_alike {g g' : Nat → Nat → Int} {n : Nat} : ∀ {ls : List Nat} {av av' : Nat → Bool}, Alike g g' n ls av av' → opt g n ls av = opt g' n ls av'
  | [], _, _, _ => rfl
  | l :: ls, av, av', h => by
    rw [opt_cons, opt_cons, opt_alike h.tail]
    refine foldMax_congr _ _ (fun r hr => h.cond (List.mem_range.1 hr)) (fun r hr hc => ?_)
    simp only [Bool.and_eq_true, decide_eq_true_eq] at hc
    rw [(h l List.mem_cons_self r (List.mem_range.1 hr)).2 hc.1 hc.2, opt_alike (h.tail.less r)]

theorem choose_alike {g g' : Nat → Nat → Int} {n l : Nat} {ls : List Nat} {av av' : Nat → Bool} (h : Alike g g' n (l :: ls) av av') : choose g n l ls av = choose g' n l ls av' := by
  unfold choose
  refine find_congr _ fun r hr => ?_
  have hr' := List.mem_range.1 hr
  rw [h.cond hr', opt_alike h, opt_alike (h.tail.less r)]
  cases hc : (av' r && decide (0 ≤ g' l r)) with
  | false => rfl
  | true =>
    rw [← h.cond hr'] at hc
    simp only [Bool.and_eq_true, decide_eq_true_eq] at hc
    rw [(h l List.mem_cons_self r hr').2 hc.1 hc.2]

theorem firsts_alike {g g' : Nat → Nat → Int} {n : Nat} : ∀ {ls : List Nat} {av av' : Nat → Bool}, Alike g g' n ls av av' → firsts g n ls av = firsts g' n ls av'
  | [], _, _, _ => rfl
  | l :: ls, av, av', h => by
    unfold firsts
    rw [choose_alike h]
    cases choose g' n l ls av' with
    | none => simp only; rw [firsts_alike h.tail]
    | some r => simp only; rw [firsts_alike (h.tail.less r)]

/-! ### gains as often as great -/
theorem foldMax_times {c : Nat → Bool} {f : Nat → Int} {k : Int} (hk : 0 ≤ k) : ∀ (l : List Nat) (a : Int), foldMax c (fun r => k * f r) (k * a) l = k * foldMax c f a l
  | [], _ => rfl
  | r :: l, a => by
    rw [foldMax_cons, foldMax_cons]
    by_cases h : c r = true
    · rw [if_pos h, if_pos h, ← foldMax_times hk l]
      congr 1
      rcases Int.le_total a (f r) with h1 | h1
      · rw [Int.max_eq_right h1, Int.max_eq_right (Int.mul_le_mul_of_nonneg_left h1 hk)]
      · rw [Int.max_eq_left h1, Int.max_eq_left (Int.mul_le_mul_of_nonneg_left h1 hk)]
    · rw [if_neg h, if_neg h, foldMax_times hk l]

theorem times_cond {k x : Int} (hk : 0 < k) : decide (0 ≤ k * x) = decide (0 ≤ x) := by
  rw [decide_eq_decide]
  constructor
  · intro h
    rcases Int.lt_or_le x 0 with hx | hx
    · have := Int.mul_neg_of_pos_of_neg hk hx; omega
    · exact hx
  · exact fun h => Int.mul_nonneg (by omega) h

theorem opt_times {g g' : Nat → Nat → Int} {n : Nat} {k : Int} (hk : 0 < k) : ∀ (ls : List Nat) (av : Nat → Bool), (∀ l, l ∈ ls → ∀ r, r < n → g' l r = k * g l r) → opt g' n ls av = k * opt g n ls av
  | [], _, _ => by simp [opt]
  | l :: ls, av, h => by
    rw [opt_cons, opt_cons, ← foldMax_times (by omega)]
    rw [opt_times hk ls av fun x hx => h x (List.mem_cons_of_mem _ hx)]
    refine foldMax_congr _ _ (fun r hr => ?_) (fun r hr _ => ?_)
    · rw [h l List.mem_cons_self r (List.mem_range.1 hr), times_cond hk]
    · rw [h l List.mem_cons_self r (List.mem_range.1 hr), opt_times hk ls _ fun x hx => h x (List.mem_cons_of_mem _ hx), Int.mul_add]

theorem firsts_times {g g' : Nat → Nat → Int} {n : Nat} {k : Int} (hk : 0 < k) : ∀ (ls : List Nat) (av : Nat → Bool), (∀ l, l ∈ ls → ∀ r, r < n → g' l r = k * g l r) → firsts g' n ls av = firsts g n ls av
  | [], _, _ => rfl
  | l :: ls, av, h => by
    have hc : choose g' n l ls av = choose g n l ls av := by
      unfold choose
      refine find_congr _ fun r hr => ?_
      rw [h l List.mem_cons_self r (List.mem_range.1 hr), opt_times hk _ _ h, opt_times hk ls _ fun x hx => h x (List.mem_cons_of_mem _ hx), times_cond hk, ← Int.mul_add]
      congr 1
      rw [Bool.eq_iff_iff]
      simp only [beq_iff_eq]
      exact ⟨fun e => Int.eq_of_mul_eq_mul_left (by omega) e, fun e => by rw [e]⟩
    unfold firsts
    rw [hc]
    cases choose g n l ls av with
    | none => simp only; rw [firsts_times hk ls av fun x hx => h x (List.mem_cons_of_mem _ hx)]
    | some r => simp only; rw [firsts_times hk ls (less av r) fun x hx => h x (List.mem_cons_of_mem _ hx)]

/-! ### an idle item -/
theorem opt_item {g g' : Nat → Nat → Int} {n : Nat} : ∀ (ls : List Nat) (av : Nat → Bool), (∀ l, l ∈ ls → (∀ r, r < n → g' l r = g l r) ∧ g' l n < 0) → opt g' (n + 1) ls av = opt g n ls av
  | [], _, _ => rfl
  | l :: ls, av, h => by
    have hl := h l List.mem_cons_self
    have hc : (av n && decide (0 ≤ g' l n)) = false := by
      have := hl.2
      simp; intro _; omega
    rw [opt_cons, opt_cons, List.range_succ, foldMax_snoc, if_neg (by rw [hc]; simp), opt_item ls av fun x hx => h x (List.mem_cons_of_mem _ hx)]
    refine foldMax_congr _ _ (fun r hr => ?_) (fun r hr _ => ?_)
    · rw [hl.1 r (List.mem_range.1 hr)]
    · rw [hl.1 r (List.mem_range.1 hr), opt_item ls _ fun x hx => h x (List.mem_cons_of_mem _ hx)]

theorem firsts_item {g g' : Nat → Nat → Int} {n : Nat} : ∀ (ls : List Nat) (av : Nat → Bool), (∀ l, l ∈ ls → (∀ r, r < n → g' l r = g l r) ∧ g' l n < 0) → firsts g' (n + 1) ls av = firsts g n ls av
  | [], _, _ => rfl
  | l :: ls, av, h => by
    have hl := h l List.mem_cons_self
    have hc : choose g' (n + 1) l ls av = choose g n l ls av := by
      have hn : (av n && decide (0 ≤ g' l n) && (g' l n + opt g' (n + 1) ls (less av n) == opt g' (n + 1) (l :: ls) av)) = false := by
        have := hl.2
        simp only [Bool.and_eq_false_iff, decide_eq_false_iff_not]
        exact .inl (.inr (by omega))
      unfold choose
      rw [List.range_succ, List.find?_append, show List.find? (fun r => av r && decide (0 ≤ g' l r) && (g' l r + opt g' (n + 1) ls (less av r) == opt g' (n + 1) (l :: ls) av)) [n] = none by simp only [List.find?_cons, hn, List.find?_nil], Option.or_none]
      refine find_congr _ fun r hr => ?_
      rw [hl.1 r (List.mem_range.1 hr), opt_item (l :: ls) _ h, opt_item ls _ fun x hx => h x (List.mem_cons_of_mem _ hx)]
    unfold firsts
    rw [hc]
    cases choose g n l ls av with
    | none => simp only; rw [firsts_item ls av fun x hx => h x (List.mem_cons_of_mem _ hx)]
    | some r => simp only; rw [firsts_item ls (less av r) fun x hx => h x (List.mem_cons_of_mem _ hx)]

/-! ### an idle bidder -/
theorem opt_idle {g : Nat → Nat → Int} {n i : Nat} (h : ∀ r, r < n → g i r < 0) : ∀ (ls ls' : List Nat) (av : Nat → Bool), opt g n (ls ++ i :: ls') av = opt g n (ls ++ ls') av
  | [], ls', av => by
    rw [List.nil_append, List.nil_append, opt_cons]
    exact foldMax_none _ _ fun r hr => by have := h r (List.mem_range.1 hr); simp; intro _; omega
  | l :: ls, ls', av => by
    rw [List.cons_append, List.cons_append, opt_cons, opt_cons, opt_idle h ls ls' av]
    exact foldMax_congr _ _ (fun _ _ => rfl) (fun r _ _ => by rw [opt_idle h ls ls'])

theorem firsts_idle {g : Nat → Nat → Int} {n i : Nat} (h : ∀ r, r < n → g i r < 0) : ∀ (ls ls' : List Nat) (av : Nat → Bool) (m : Nat → Option Nat), i ∉ ls → i ∉ ls' → (ls ++ ls').map m = firsts g n (ls ++ ls') av →
    (ls ++ i :: ls').map (upd m i none) = firsts g n (ls ++ i :: ls') av
  | [], ls', av, m, _, h2, hm => by
    have hc : choose g n i ls' av = none := by
      unfold choose
      rw [List.find?_eq_none]
      intro r hr
      have := h r (List.mem_range.1 hr)
      simp; intro _ h0; omega
    rw [List.nil_append, List.map_cons, upd_same]
    unfold firsts
    rw [hc]
    simp only [List.nil_append] at hm ⊢
    rw [← hm]
    congr 1
    exact List.map_congr_left fun x hx => upd_other fun e => h2 (e ▸ hx)
  | l :: ls, ls', av, m, h1, h2, hm => by
    have hne : l ≠ i := fun e => h1 (e ▸ List.mem_cons_self)
    have hc : choose g n l (ls ++ i :: ls') av = choose g n l (ls ++ ls') av := by
      unfold choose
      refine find_congr _ fun r _ => ?_
      rw [opt_idle h ls ls', ← List.cons_append, opt_idle h (l :: ls) ls']
      rfl
    rw [List.cons_append, List.map_cons] at hm ⊢
    rw [upd_other hne]
    unfold firsts at hm ⊢
    rw [hc]
    cases hcc : choose g n l (ls ++ ls') av with
    | none =>
      rw [hcc] at hm
      simp only [List.cons.injEq] at hm ⊢
      exact ⟨hm.1, firsts_idle h ls ls' av m (fun hx => h1 (List.mem_cons_of_mem _ hx)) h2 hm.2⟩
    | some r =>
      rw [hcc] at hm
      simp only [List.cons.injEq] at hm ⊢
      exact ⟨hm.1, firsts_idle h ls ls' (less av r) m (fun hx => h1 (List.mem_cons_of_mem _ hx)) h2 hm.2⟩

end Sale
