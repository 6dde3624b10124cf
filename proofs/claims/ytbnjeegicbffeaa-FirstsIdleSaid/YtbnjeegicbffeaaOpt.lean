/- Plain mathematics: the best of assignments, by recursion over the left side; it is the most that a matching gains; it is the same from either side. -/
namespace Sale

/-! ### the greatest of several -/
def foldMax (c : Nat → Bool) (f : Nat → Int) (a : Int) (l : List Nat) : Int := l.foldl (fun acc r => if c r = true then max acc (f r) else acc) a

theorem foldMax_nil (c : Nat → Bool) (f : Nat → Int) (a : Int) : foldMax c f a [] = a := rfl
theorem foldMax_cons (c : Nat → Bool) (f : Nat → Int) (a : Int) (r : Nat) (l : List Nat) : foldMax c f a (r :: l) = foldMax c f (if c r = true then max a (f r) else a) l := rfl
theorem foldMax_snoc (c : Nat → Bool) (f : Nat → Int) (a : Int) (l : List Nat) (r : Nat) : foldMax c f a (l ++ [r]) = if c r = true then max (foldMax c f a l) (f r) else foldMax c f a l := by
  simp [foldMax, List.foldl_append]

theorem foldMax_start (c : Nat → Bool) (f : Nat → Int) : ∀ (l : List Nat) (a : Int), a ≤ foldMax c f a l
  | [], a => Int.le_refl a
  | r :: l, a => by
    rw [foldMax_cons]
    have := foldMax_start c f l (if c r = true then max a (f r) else a)
    split at this <;> rename_i h
    · rw [if_pos h]; omega
    · rw [if_neg h]; exact this

theorem foldMax_ge (c : Nat → Bool) (f : Nat → Int) : ∀ (l : List Nat) (a : Int) (r : Nat), r ∈ l → c r = true → f r ≤ foldMax c f a l
  | x :: l, a, r, hr, hc => by
    rw [foldMax_cons]
    rcases List.mem_cons.1 hr with rfl | hr
    · have := foldMax_start c f l (if c r = true then max a (f r) else a)
      rw [if_pos hc] at this ⊢; omega
    · exact foldMax_ge c f l _ r hr hc

theorem foldMax_cases (c : Nat → Bool) (f : Nat → Int) : ∀ (l : List Nat) (a : Int), foldMax c f a l = a ∨ ∃ r, r ∈ l ∧ c r = true ∧ foldMax c f a l = f r
  | [], a => .inl rfl
  | x :: l, a => by
    rw [foldMax_cons]
    rcases foldMax_cases c f l (if c x = true then max a (f x) else a) with h | ⟨r, hr, hc, h⟩
    · by_cases hx : c x = true
      · rw [if_pos hx] at h ⊢
        rcases Int.le_total a (f x) with h1 | h1
        · exact .inr ⟨x, List.mem_cons_self, hx, by rw [h]; omega⟩
        · exact .inl (by rw [h]; omega)
      · rw [if_neg hx] at h ⊢; exact .inl h
    · exact .inr ⟨r, List.mem_cons_of_mem _ hr, hc, h⟩

theorem foldMax_congr {c c' : Nat → Bool} {f f' : Nat → Int} : ∀ (l : List Nat) (a : Int), (∀ r, r ∈ l → c r = c' r) → (∀ r, r ∈ l → c r = true → f r = f' r) → foldMax c f a l = foldMax c' f' a l
  | [], _, _, _ => rfl
  | x :: l, a, h1, h2 => by
    rw [foldMax_cons, foldMax_cons]
    have e : (if c x = true then max a (f x) else a) = (if c' x = true then max a (f' x) else a) := by
      rw [← h1 x List.mem_cons_self]
      by_cases hx : c x = true
      · rw [if_pos hx, if_pos hx, h2 x List.mem_cons_self hx]
      · rw [if_neg hx, if_neg hx]
    rw [e]
    exact foldMax_congr l _ (fun r hr => h1 r (List.mem_cons_of_mem _ hr)) (fun r hr => h2 r (List.mem_cons_of_mem _ hr))

theorem foldMax_none {c : Nat → Bool} {f : Nat → Int} (l : List Nat) (a : Int) (h : ∀ r, r ∈ l → c r = false) : foldMax c f a l = a := by
  rcases foldMax_cases c f l a with e | ⟨r, hr, hc, _⟩
  · exact e
  · rw [h r hr] at hc; cases hc

/-! ### the recursion -/
/-- av without r -/
def less (av : Nat → Bool) (r : Nat) : Nat → Bool := fun x => av x && x != r

theorem less_true {av : Nat → Bool} {r x : Nat} : less av r x = true ↔ av x = true ∧ x ≠ r := by simp [less]

/-- the most that those of the list on the left gain by those on the right below n that are open; a pair of less than 0 is none -/
def opt (g : Nat → Nat → Int) (n : Nat) : List Nat → (Nat → Bool) → Int
  | [], _ => 0
  | l :: ls, av => foldMax (fun r => av r && decide (0 ≤ g l r)) (fun r => g l r + opt g n ls (less av r)) (opt g n ls av) (List.range n)

theorem opt_cons (g : Nat → Nat → Int) (n l : Nat) (ls : List Nat) (av : Nat → Bool) :
    opt g n (l :: ls) av = foldMax (fun r => av r && decide (0 ≤ g l r)) (fun r => g l r + opt g n ls (less av r)) (opt g n ls av) (List.range n) := rfl

theorem opt_le_cons (g : Nat → Nat → Int) (n l : Nat) (ls : List Nat) (av : Nat → Bool) : opt g n ls av ≤ opt g n (l :: ls) av := foldMax_start _ _ _ _

theorem opt_ge_pair {g : Nat → Nat → Int} {n l r : Nat} {ls : List Nat} {av : Nat → Bool} (hr : r < n) (ha : av r = true) (hg : 0 ≤ g l r) : g l r + opt g n ls (less av r) ≤ opt g n (l :: ls) av :=
  foldMax_ge (fun r => av r && decide (0 ≤ g l r)) (fun r => g l r + opt g n ls (less av r)) _ _ r (List.mem_range.2 hr) (by simp [ha, hg])

theorem opt_cons_cases (g : Nat → Nat → Int) (n l : Nat) (ls : List Nat) (av : Nat → Bool) :
    opt g n (l :: ls) av = opt g n ls av ∨ ∃ r, r < n ∧ av r = true ∧ 0 ≤ g l r ∧ opt g n (l :: ls) av = g l r + opt g n ls (less av r) := by
  rcases foldMax_cases (fun r => av r && decide (0 ≤ g l r)) (fun r => g l r + opt g n ls (less av r)) (List.range n) (opt g n ls av) with h | ⟨r, hr, hc, h⟩
  · exact .inl h
  · simp at hc
    exact .inr ⟨r, List.mem_range.1 hr, hc.1, hc.2, h⟩

theorem opt_nonneg (g : Nat → Nat → Int) (n : Nat) : ∀ (ls : List Nat) (av : Nat → Bool), 0 ≤ opt g n ls av
  | [], _ => Int.le_refl 0
  | l :: ls, av => Int.le_trans (opt_nonneg g n ls av) (opt_le_cons g n l ls av)

/-- it hangs on the gains of those on the left, and on what is open below n, alone -/
theorem opt_congr {g g' : Nat → Nat → Int} {n : Nat} : ∀ (ls : List Nat) {av av' : Nat → Bool}, (∀ l, l ∈ ls → ∀ r, r < n → g l r = g' l r) → (∀ r, r < n → av r = av' r) → opt g n ls av = opt g' n ls av'
  | [], _, _, _, _ => rfl
  | l :: ls, av, av', hg, ha => by
    rw [opt_cons, opt_cons, opt_congr ls (fun x hx => hg x (List.mem_cons_of_mem _ hx)) ha]
    refine foldMax_congr _ _ (fun r hr => ?_) (fun r hr _ => ?_)
    · rw [ha r (List.mem_range.1 hr), hg l List.mem_cons_self r (List.mem_range.1 hr)]
    · rw [hg l List.mem_cons_self r (List.mem_range.1 hr), opt_congr ls (av := less av r) (av' := less av' r) (fun x hx => hg x (List.mem_cons_of_mem _ hx)) (fun x hx => by simp only [less]; rw [ha x hx])]

theorem opt_le {g : Nat → Nat → Int} {n : Nat} {B : Int} (hB : 0 ≤ B) : ∀ (ls : List Nat) (av : Nat → Bool), (∀ l, l ∈ ls → ∀ r, r < n → g l r ≤ B) → opt g n ls av ≤ B * ls.length
  | [], _, _ => by simp [opt]
  | l :: ls, av, h => by
    have e : B * ((l :: ls).length : Int) = B * (ls.length : Int) + B := by rw [List.length_cons]; push_cast; rw [Int.mul_add]; omega
    rcases opt_cons_cases g n l ls av with h1 | ⟨r, hr, _, _, h1⟩
    · have := opt_le hB ls av (fun x hx => h x (List.mem_cons_of_mem _ hx)); omega
    · have := opt_le hB ls (less av r) (fun x hx => h x (List.mem_cons_of_mem _ hx))
      have := h l List.mem_cons_self r hr
      omega

/-! ### matchings as lists of pairs -/
structure Mat (g : Nat → Nat → Int) (n : Nat) (ls : List Nat) (av : Nat → Bool) (M : List (Nat × Nat)) : Prop where
  left : ∀ p, p ∈ M → p.1 ∈ ls
  right : ∀ p, p ∈ M → p.2 < n ∧ av p.2 = true
  gain : ∀ p, p ∈ M → 0 ≤ g p.1 p.2
  fsts : (M.map Prod.fst).Nodup
  snds : (M.map Prod.snd).Nodup

def val (g : Nat → Nat → Int) : List (Nat × Nat) → Int
  | [] => 0
  | p :: M => g p.1 p.2 + val g M

theorem val_perm {g : Nat → Nat → Int} {M M' : List (Nat × Nat)} (h : M.Perm M') : val g M = val g M' := by
  induction h with
  | nil => rfl
  | cons x _ ih => simp only [val, ih]
  | swap x y l => simp only [val]; omega
  | trans _ _ h1 h2 => exact h1.trans h2

theorem val_append (g : Nat → Nat → Int) : ∀ (M N : List (Nat × Nat)), val g (M ++ N) = val g M + val g N
  | [], N => by simp [val]
  | p :: M, N => by simp only [List.cons_append, val, val_append g M N]; omega

theorem Mat.perm {g : Nat → Nat → Int} {n : Nat} {ls : List Nat} {av : Nat → Bool} {M M' : List (Nat × Nat)} (h : Mat g n ls av M) (p : M.Perm M') : Mat g n ls av M' :=
  ⟨fun x hx => h.left x (p.mem_iff.2 hx), fun x hx => h.right x (p.mem_iff.2 hx), fun x hx => h.gain x (p.mem_iff.2 hx), (p.map Prod.fst).nodup_iff.1 h.fsts, (p.map Prod.snd).nodup_iff.1 h.snds⟩

theorem opt_most {g : Nat → Nat → Int} {n : Nat} : ∀ (ls : List Nat) {av : Nat → Bool} {M : List (Nat × Nat)}, Mat g n ls av M → val g M ≤ opt g n ls av
  | [], av, M, h => by
    cases M with
    | nil => exact Int.le_refl 0
    | cons p M => exact absurd (h.left p List.mem_cons_self) List.not_mem_nil
  | l :: ls, av, M, h => by
    by_cases hl : ∃ r, (l, r) ∈ M
    · obtain ⟨r, hr⟩ := hl
      have hp := List.perm_cons_erase hr
      have h' := h.perm hp
      have hn1 := h'.fsts
      have hn2 := h'.snds
      simp only [List.map_cons, List.nodup_cons] at hn1 hn2
      have hM' : Mat g n ls (less av r) (M.erase (l, r)) := by
        refine ⟨fun p hp => ?_, fun p hp => ?_, fun p hp => h'.gain p (List.mem_cons_of_mem _ hp), hn1.2, hn2.2⟩
        · rcases List.mem_cons.1 (h'.left p (List.mem_cons_of_mem _ hp)) with e | e
          · exact absurd (List.mem_map.2 ⟨p, hp, e⟩) hn1.1
          · exact e
        · refine ⟨(h'.right p (List.mem_cons_of_mem _ hp)).1, less_true.2 ⟨(h'.right p (List.mem_cons_of_mem _ hp)).2, fun e => hn2.1 (List.mem_map.2 ⟨p, hp, e⟩)⟩⟩
      have h1 := opt_most ls hM'
      have h2 := h'.right (l, r) List.mem_cons_self
      have h3 := opt_ge_pair (ls := ls) h2.1 h2.2 (h'.gain (l, r) List.mem_cons_self)
      rw [val_perm hp]
      simp only [val] at *
      omega
    · have hM' : Mat g n ls av M := by
        refine ⟨fun p hp => ?_, h.right, h.gain, h.fsts, h.snds⟩
        rcases List.mem_cons.1 (h.left p hp) with e | e
        · exact absurd ⟨p.2, by rw [← e]; exact hp⟩ hl
        · exact e
      exact Int.le_trans (opt_most ls hM') (opt_le_cons g n l ls av)

theorem opt_had {g : Nat → Nat → Int} {n : Nat} : ∀ (ls : List Nat) (av : Nat → Bool), ls.Nodup → ∃ M, Mat g n ls av M ∧ val g M = opt g n ls av
  | [], av, _ => ⟨[], ⟨fun _ h => absurd h List.not_mem_nil, fun _ h => absurd h List.not_mem_nil, fun _ h => absurd h List.not_mem_nil, List.nodup_nil, List.nodup_nil⟩, rfl⟩
  | l :: ls, av, hn => by
    obtain ⟨hl, hn⟩ := List.nodup_cons.1 hn
    rcases opt_cons_cases g n l ls av with h | ⟨r, hr, ha, hg, h⟩
    · obtain ⟨M, hM, hv⟩ := opt_had (g := g) (n := n) ls av hn
      exact ⟨M, ⟨fun p hp => List.mem_cons_of_mem _ (hM.left p hp), hM.right, hM.gain, hM.fsts, hM.snds⟩, by rw [h, hv]⟩
    · obtain ⟨M, hM, hv⟩ := opt_had (g := g) (n := n) ls (less av r) hn
      refine ⟨(l, r) :: M, ⟨fun p hp => ?_, fun p hp => ?_, fun p hp => ?_, ?_, ?_⟩, by simp only [val]; rw [h, hv]⟩
      · rcases List.mem_cons.1 hp with rfl | hp
        · exact List.mem_cons_self
        · exact List.mem_cons_of_mem _ (hM.left p hp)
      · rcases List.mem_cons.1 hp with rfl | hp
        · exact ⟨hr, ha⟩
        · exact ⟨(hM.right p hp).1, (less_true.1 (hM.right p hp).2).1⟩
      · rcases List.mem_cons.1 hp with rfl | hp
        · exact hg
        · exact hM.gain p hp
      · simp only [List.map_cons, List.nodup_cons]
        refine ⟨fun hm => ?_, hM.fsts⟩
        obtain ⟨p, hp, e⟩ := List.mem_map.1 hm
        exact hl (e ▸ hM.left p hp)
      · simp only [List.map_cons, List.nodup_cons]
        refine ⟨fun hm => ?_, hM.snds⟩
        obtain ⟨p, hp, e⟩ := List.mem_map.1 hm
        exact (less_true.1 (hM.right p hp).2).2 e

/-! ### from either side -/
def flip (g : Nat → Nat → Int) : Nat → Nat → Int := fun a b => g b a

theorem val_flip (g : Nat → Nat → Int) : ∀ M : List (Nat × Nat), val (flip g) (M.map fun p => (p.2, p.1)) = val g M
  | [] => rfl
  | p :: M => by simp only [List.map_cons, val, val_flip g M]; rfl

theorem Mat.flip {g : Nat → Nat → Int} {n m : Nat} {ls rs : List Nat} {av bv : Nat → Bool} {M : List (Nat × Nat)} (h : Mat g n ls av M)
    (hl : ∀ i, i ∈ ls → i < m ∧ bv i = true) (hr : ∀ k, k < n → av k = true → k ∈ rs) : Mat (flip g) m rs bv (M.map fun p => (p.2, p.1)) := by
  refine ⟨fun p hp => ?_, fun p hp => ?_, fun p hp => ?_, ?_, ?_⟩
  · obtain ⟨q, hq, rfl⟩ := List.mem_map.1 hp
    exact hr _ (h.right q hq).1 (h.right q hq).2
  · obtain ⟨q, hq, rfl⟩ := List.mem_map.1 hp
    exact hl _ (h.left q hq)
  · obtain ⟨q, hq, rfl⟩ := List.mem_map.1 hp
    exact h.gain q hq
  · rw [List.map_map]; exact h.snds
  · rw [List.map_map]; exact h.fsts

theorem opt_flip_le {g : Nat → Nat → Int} {n m : Nat} {ls rs : List Nat} {av bv : Nat → Bool} (hn : ls.Nodup)
    (hl : ∀ i, i ∈ ls → i < m ∧ bv i = true) (hr : ∀ k, k < n → av k = true → k ∈ rs) : opt g n ls av ≤ opt (flip g) m rs bv := by
  obtain ⟨M, hM, hv⟩ := opt_had (g := g) (n := n) ls av hn
  have h := opt_most rs (hM.flip hl hr)
  rw [val_flip, hv] at h
  exact h

theorem opt_flip {g : Nat → Nat → Int} {n m : Nat} {ls rs : List Nat} {av bv : Nat → Bool} (hn : ls.Nodup) (hm : rs.Nodup)
    (hl : ∀ i, i ∈ ls ↔ i < m ∧ bv i = true) (hr : ∀ k, k ∈ rs ↔ k < n ∧ av k = true) : opt g n ls av = opt (flip g) m rs bv :=
  Int.le_antisymm (opt_flip_le hn (fun i h => (hl i).1 h) (fun k h1 h2 => (hr k).2 ⟨h1, h2⟩))
    (opt_flip_le (g := flip g) hm (fun k h => (hr k).1 h) (fun i h1 h2 => (hl i).2 ⟨h1, h2⟩))

/-- more that is open, more on the left: no less -/
theorem opt_mono {g : Nat → Nat → Int} {n : Nat} {ls ls' : List Nat} {av av' : Nat → Bool} (hn : ls.Nodup) (hl : ∀ i, i ∈ ls → i ∈ ls') (ha : ∀ k, k < n → av k = true → av' k = true) : opt g n ls av ≤ opt g n ls' av' := by
  obtain ⟨M, hM, hv⟩ := opt_had (g := g) (n := n) ls av hn
  rw [← hv]
  exact opt_most ls' ⟨fun p hp => hl _ (hM.left p hp), fun p hp => ⟨(hM.right p hp).1, ha _ (hM.right p hp).1 (hM.right p hp).2⟩, hM.gain, hM.fsts, hM.snds⟩

theorem opt_perm {g : Nat → Nat → Int} {n : Nat} {ls ls' : List Nat} {av : Nat → Bool} (hn : ls.Nodup) (hp : ls.Perm ls') : opt g n ls av = opt g n ls' av :=
  Int.le_antisymm (opt_mono hn (fun _ h => hp.mem_iff.1 h) (fun _ _ h => h)) (opt_mono (hp.nodup_iff.1 hn) (fun _ h => hp.mem_iff.2 h) (fun _ _ h => h))

end Sale
