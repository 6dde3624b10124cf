/- Plain mathematics: who has what, as a function; matchings as such functions. -/
import Derived.Test.YtbnjeegicbffeaaFirsts
namespace Sale

/-- a matching as a function, among some on the left, into what is left on the right -/
structure Fits (g : Nat → Nat → Int) (n : Nat) (ls : List Nat) (av : Nat → Bool) (m : Nat → Option Nat) : Prop where
  some : ∀ l, l ∈ ls → ∀ r, m l = .some r → r < n ∧ av r = true ∧ 0 ≤ g l r
  inj : ∀ l, l ∈ ls → ∀ l', l' ∈ ls → ∀ r, m l = .some r → m l' = .some r → l = l'

/-- what it gains -/
def gain (g : Nat → Nat → Int) (m : Nat → Option Nat) (l : Nat) : Int := match m l with | some r => g l r | none => 0
def total (g : Nat → Nat → Int) (m : Nat → Option Nat) : List Nat → Int
  | [] => 0
  | l :: ls => gain g m l + total g m ls

theorem total_perm {g : Nat → Nat → Int} {m : Nat → Option Nat} {ls ls' : List Nat} (h : ls.Perm ls') : total g m ls = total g m ls' := by
  induction h with
  | nil => rfl
  | cons x _ ih => simp only [total, ih]
  | swap x y l => simp only [total]; omega
  | trans _ _ i1 i2 => rw [i1, i2]

theorem total_congr {g g' : Nat → Nat → Int} {m m' : Nat → Option Nat} : ∀ {ls : List Nat}, (∀ l, l ∈ ls → gain g m l = gain g' m' l) → total g m ls = total g' m' ls
  | [], _ => rfl
  | l :: ls, h => by simp only [total]; rw [h l List.mem_cons_self, total_congr fun x hx => h x (List.mem_cons_of_mem _ hx)]

theorem total_append (g : Nat → Nat → Int) (m : Nat → Option Nat) : ∀ (ls ls' : List Nat), total g m (ls ++ ls') = total g m ls + total g m ls'
  | [], ls' => by simp [total]
  | l :: ls, ls' => by simp only [List.cons_append, total, total_append g m ls ls']; omega

theorem Fits.perm {g : Nat → Nat → Int} {n : Nat} {ls ls' : List Nat} {av : Nat → Bool} {m : Nat → Option Nat} (h : Fits g n ls av m) (p : ls.Perm ls') : Fits g n ls' av m :=
  ⟨fun l hl => h.some l (p.mem_iff.2 hl), fun l hl l' hl' => h.inj l (p.mem_iff.2 hl) l' (p.mem_iff.2 hl')⟩

theorem mem_pairs {m : Nat → Option Nat} : ∀ {ls : List Nat} {p : Nat × Nat}, p ∈ pairs ls (ls.map m) ↔ p.1 ∈ ls ∧ m p.1 = some p.2
  | [], p => by simp [pairs]
  | l :: ls, p => by
    cases h : m l with
    | none =>
      simp only [List.map_cons, h, pairs, mem_pairs, List.mem_cons]
      constructor
      · exact fun ⟨h1, h2⟩ => ⟨.inr h1, h2⟩
      · rintro ⟨h1 | h1, h2⟩
        · rw [h1, h] at h2; cases h2
        · exact ⟨h1, h2⟩
    | some r =>
      simp only [List.map_cons, h, pairs, List.mem_cons, mem_pairs]
      constructor
      · rintro (rfl | ⟨h1, h2⟩)
        · exact ⟨.inl rfl, h⟩
        · exact ⟨.inr h1, h2⟩
      · rintro ⟨h1 | h1, h2⟩
        · left; rw [h1, h] at h2; cases h2; exact Prod.ext h1 rfl
        · exact .inr ⟨h1, h2⟩

theorem pairs_fsts {m : Nat → Option Nat} : ∀ {ls : List Nat}, ls.Nodup → ((pairs ls (ls.map m)).map Prod.fst).Nodup
  | [], _ => List.nodup_nil
  | l :: ls, hn => by
    obtain ⟨hl, hn⟩ := List.nodup_cons.1 hn
    cases h : m l with
    | none => simpa only [List.map_cons, h, pairs] using pairs_fsts hn
    | some r =>
      simp only [List.map_cons, h, pairs, List.nodup_cons]
      refine ⟨fun hm => ?_, pairs_fsts hn⟩
      obtain ⟨p, hp, e⟩ := List.mem_map.1 hm
      exact hl (e ▸ (mem_pairs.1 hp).1)

theorem pairs_snds {m : Nat → Option Nat} : ∀ {ls : List Nat}, ls.Nodup → (∀ l, l ∈ ls → ∀ l', l' ∈ ls → ∀ r, m l = some r → m l' = some r → l = l') → ((pairs ls (ls.map m)).map Prod.snd).Nodup
  | [], _, _ => List.nodup_nil
  | l :: ls, hn, hi => by
    obtain ⟨hl, hn⟩ := List.nodup_cons.1 hn
    have ih := pairs_snds hn fun a ha b hb => hi a (List.mem_cons_of_mem _ ha) b (List.mem_cons_of_mem _ hb)
    cases h : m l with
    | none => simpa only [List.map_cons, h, pairs] using ih
    | some r =>
      simp only [List.map_cons, h, pairs, List.nodup_cons]
      refine ⟨fun hm => ?_, ih⟩
      obtain ⟨p, hp, e⟩ := List.mem_map.1 hm
      obtain ⟨h1, h2⟩ := mem_pairs.1 hp
      have : p.1 = l := hi p.1 (List.mem_cons_of_mem _ h1) l List.mem_cons_self r (by rw [h2, e]) h
      exact hl (this ▸ h1)

theorem nodup_fst_eq : ∀ {M : List (Nat × Nat)} {p q : Nat × Nat}, (M.map Prod.snd).Nodup → p ∈ M → q ∈ M → p.2 = q.2 → p = q
  | x :: M, p, q, hn, hp, hq, e => by
    simp only [List.map_cons, List.nodup_cons] at hn
    rcases List.mem_cons.1 hp with h1 | h1 <;> rcases List.mem_cons.1 hq with h2 | h2
    · rw [h1, h2]
    · exact absurd (List.mem_map.2 ⟨q, h2, by rw [← h1, e]⟩) hn.1
    · exact absurd (List.mem_map.2 ⟨p, h1, by rw [← h2, e]⟩) hn.1
    · exact nodup_fst_eq hn.2 h1 h2 e

theorem fits_mat {g : Nat → Nat → Int} {n : Nat} {ls : List Nat} {av : Nat → Bool} {m : Nat → Option Nat} (hn : ls.Nodup) : Fits g n ls av m ↔ Mat g n ls av (pairs ls (ls.map m)) := by
  constructor
  · intro h
    refine ⟨fun p hp => (mem_pairs.1 hp).1, fun p hp => ?_, fun p hp => ?_, pairs_fsts hn, pairs_snds hn h.inj⟩
    · obtain ⟨h1, h2⟩ := mem_pairs.1 hp
      exact ⟨(h.some _ h1 _ h2).1, (h.some _ h1 _ h2).2.1⟩
    · obtain ⟨h1, h2⟩ := mem_pairs.1 hp
      exact (h.some _ h1 _ h2).2.2
  · intro h
    refine ⟨fun l hl r hr => ?_, fun l hl l' hl' r hr hr' => ?_⟩
    · have hp : (l, r) ∈ pairs ls (ls.map m) := mem_pairs.2 ⟨hl, hr⟩
      exact ⟨(h.right _ hp).1, (h.right _ hp).2, h.gain _ hp⟩
    · have hp : (l, r) ∈ pairs ls (ls.map m) := mem_pairs.2 ⟨hl, hr⟩
      have hp' : (l', r) ∈ pairs ls (ls.map m) := mem_pairs.2 ⟨hl', hr'⟩
      exact congrArg Prod.fst (nodup_fst_eq h.snds hp hp' rfl)

theorem val_pairs (g : Nat → Nat → Int) (m : Nat → Option Nat) : ∀ ls : List Nat, val g (pairs ls (ls.map m)) = total g m ls
  | [] => rfl
  | l :: ls => by
    cases h : m l with
    | none => simp only [List.map_cons, h, pairs, total, gain, val_pairs g m ls]; omega
    | some r => simp only [List.map_cons, h, pairs, total, gain, val, val_pairs g m ls]

theorem total_most {g : Nat → Nat → Int} {n : Nat} {ls : List Nat} {av : Nat → Bool} {m : Nat → Option Nat} (hn : ls.Nodup) (h : Fits g n ls av m) : total g m ls ≤ opt g n ls av := by
  rw [← val_pairs]; exact opt_most ls ((fits_mat hn).1 h)

/-- the first of the best, as a function -/
structure IsFirst (g : Nat → Nat → Int) (n : Nat) (ls : List Nat) (m : Nat → Option Nat) : Prop where
  eq : ls.map m = firsts g n ls (fun _ => true)
  nodup : ls.Nodup

theorem IsFirst.fits {g : Nat → Nat → Int} {n : Nat} {ls : List Nat} {m : Nat → Option Nat} (h : IsFirst g n ls m) : Fits g n ls (fun _ => true) m := by
  rw [fits_mat h.nodup, h.eq]; exact (firsts_mat ls _ h.nodup).1
theorem IsFirst.best {g : Nat → Nat → Int} {n : Nat} {ls : List Nat} {m : Nat → Option Nat} (h : IsFirst g n ls m) : total g m ls = opt g n ls (fun _ => true) := by
  rw [← val_pairs, h.eq]; exact (firsts_mat ls _ h.nodup).2
theorem IsFirst.ahead {g : Nat → Nat → Int} {n : Nat} {ls : List Nat} {m m' : Nat → Option Nat} (h : IsFirst g n ls m) (hf : Fits g n ls (fun _ => true) m') (ht : total g m' ls = opt g n ls (fun _ => true)) : Ahead (ls.map m) (ls.map m') := by
  rw [h.eq]
  exact firsts_ahead ls _ _ h.nodup (by simp) ((fits_mat h.nodup).1 hf) (by rw [val_pairs]; exact ht)

/-- where two lists part first -/
theorem Ahead.parts {m m' : Nat → Option Nat} : ∀ {ls : List Nat} {d x : Nat}, Ahead (ls.map m) (ls.map m') → ls[d]? = some x → (∀ y, y ∈ ls.take d → m y = m' y) → m x ≠ m' x →
    ∃ r, m x = some r ∧ (m' x = none ∨ ∃ r', m' x = some r' ∧ r < r')
  | l :: ls, 0, x, h, hx, _, hne => by
    obtain rfl : l = x := by simpa using hx
    simp only [List.map_cons] at h
    cases h1 : m l with
    | none =>
      cases h2 : m' l with
      | none => rw [h1, h2] at hne; exact absurd rfl hne
      | some r' => rw [h1, h2] at h; exact h.elim
    | some r =>
      refine ⟨r, rfl, ?_⟩
      cases h2 : m' l with
      | none => exact .inl rfl
      | some r' =>
        rw [h1, h2] at h
        rcases h with h | ⟨h, _⟩
        · exact .inr ⟨r', rfl, h⟩
        · rw [h1, h2, h] at hne; exact absurd rfl hne
  | l :: ls, d + 1, x, h, hx, heq, hne => by
    have e : m l = m' l := heq l (by simp)
    simp only [List.map_cons] at h
    have h' : Ahead (ls.map m) (ls.map m') := by
      cases h1 : m l with
      | none => rw [← e, h1] at h; exact h
      | some r =>
        rw [← e, h1] at h
        rcases h with h | ⟨_, h⟩
        · exact absurd h (Nat.lt_irrefl _)
        · exact h
    exact Ahead.parts h' (by simpa using hx) (fun y hy => heq y (by simp [hy])) hne

end Sale
