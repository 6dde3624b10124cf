/- Plain mathematics: the search of a way to one more item, and the way gone: who may have what as lists, who has what as a function. -/
import Derived.Test.YtbnjeegicbffeaaMoves
namespace Way
open Sale (upd upd_same upd_other)

/-! ### lists without repeats -/
theorem nodup_len : ∀ {l m : List Nat}, l.Nodup → (∀ x, x ∈ l → x ∈ m) → l.length ≤ m.length
  | [], _, _, _ => Nat.zero_le _
  | x :: l, m, hn, h => by
    obtain ⟨hx, hn⟩ := List.nodup_cons.1 hn
    have hm : x ∈ m := h x List.mem_cons_self
    have h1 : l.length ≤ (m.erase x).length := nodup_len hn fun y hy => by
      have hne : y ≠ x := fun e => hx (e ▸ hy)
      exact (List.mem_erase_of_ne hne).2 (h y (List.mem_cons_of_mem _ hy))
    rw [List.length_erase_of_mem hm] at h1
    have : 0 < m.length := List.length_pos_of_mem hm
    simp only [List.length_cons]; omega

theorem nodup_all {l m : List Nat} (hn : l.Nodup) (h : ∀ x, x ∈ l → x ∈ m) (hlen : m.length ≤ l.length) : ∀ y, y ∈ m → y ∈ l := by
  intro y hy
  by_cases hl : y ∈ l
  · exact hl
  · have := nodup_len (l := y :: l) (m := m) (List.nodup_cons.2 ⟨hl, hn⟩) fun x hx => by
      rcases List.mem_cons.1 hx with rfl | hx
      · exact hy
      · exact h x hx
    simp only [List.length_cons] at this
    omega

/-- as many as there are, by what each of them has -/
theorem inj_len {R C : List Nat} {f : Nat → Option Nat} (hn : R.Nodup) (hf : ∀ w, w ∈ R → ∃ k, f w = some k ∧ k ∈ C) (hinj : ∀ w w' k, w ∈ R → w' ∈ R → f w = some k → f w' = some k → w = w') :
    (R.filterMap f).Nodup ∧ (R.filterMap f).length = R.length ∧ ∀ k, k ∈ R.filterMap f → k ∈ C := by
  induction R with
  | nil => simp
  | cons w R ih =>
    obtain ⟨hw, hn⟩ := List.nodup_cons.1 hn
    obtain ⟨k, hk, hkC⟩ := hf w List.mem_cons_self
    obtain ⟨h1, h2, h3⟩ := ih hn (fun w' hw' => hf w' (List.mem_cons_of_mem _ hw')) (fun a b k ha hb => hinj a b k (List.mem_cons_of_mem _ ha) (List.mem_cons_of_mem _ hb))
    rw [List.filterMap_cons_some hk]
    refine ⟨List.nodup_cons.2 ⟨fun hm => ?_, h1⟩, by simp [h2], fun r hr => ?_⟩
    · obtain ⟨w', hw', e⟩ := List.mem_filterMap.1 hm
      have := hinj w w' k List.mem_cons_self (List.mem_cons_of_mem _ hw') hk e
      exact hw (this ▸ hw')
    · rcases List.mem_cons.1 hr with rfl | hr
      · exact hkC
      · exact h3 r hr

/-! ### the search -/
/-- whom it came to, in order; by whom it came to each item, plus one (0: nobody) -/
structure St where
  ws : List Nat
  came : Nat → Nat

def mark (f : Nat → Nat) (k v : Nat) : Nat → Nat := fun x => if x = k then v else f x
theorem mark_same (f : Nat → Nat) (k v : Nat) : mark f k v k = v := by simp [mark]
theorem mark_other {f : Nat → Nat} {k v x : Nat} (h : x ≠ k) : mark f k v x = f x := by simp [mark, h]

/-- one item of a bidder's list -/
def step (hold : Nat → Nat) (all : Bool) (who : Nat) (s : St) (k : Nat) : St × Option Nat :=
  if 0 < s.came k then (s, none)
  else if 0 < hold k then (⟨s.ws ++ [hold k - 1], mark s.came k (who + 1)⟩, none)
  else (⟨s.ws, mark s.came k (who + 1)⟩, if all = true then none else some k)

def scan (hold : Nat → Nat) (all : Bool) (who : Nat) : List Nat → St → St × Option Nat
  | [], s => (s, none)
  | k :: ks, s => match step hold all who s k with
    | (s', some r) => (s', some r)
    | (s', none) => scan hold all who ks s'

def goes (nb : Nat → List Nat) (hold : Nat → Nat) (all : Bool) : Nat → Nat → St → St × Option Nat
  | 0, _, s => (s, none)
  | f + 1, n, s => match s.ws[n]? with
    | none => (s, none)
    | some w => match scan hold all w (nb w) s with
      | (s', some r) => (s', some r)
      | (s', none) => goes nb hold all f (n + 1) s'

theorem scan_append (hold : Nat → Nat) (all : Bool) (who : Nat) : ∀ (ks ks' : List Nat) (s : St), scan hold all who (ks ++ ks') s = match scan hold all who ks s with
    | (s', some r) => (s', some r)
    | (s', none) => scan hold all who ks' s'
  | [], ks', s => rfl
  | k :: ks, ks', s => by
    simp only [List.cons_append, scan]
    rcases hst : step hold all who s k with ⟨s', o⟩
    cases o with
    | none => simp only; exact scan_append hold all who ks ks' s'
    | some r => rfl

/-- one item more, when none was found so far -/
theorem scan_snoc {hold : Nat → Nat} {all : Bool} {who : Nat} {ks : List Nat} {s s' : St} (h : scan hold all who ks s = (s', none)) (k : Nat) : scan hold all who (ks ++ [k]) s = step hold all who s' k := by
  rw [scan_append, h]
  simp only [scan]
  rcases hst : step hold all who s' k with ⟨s'', o⟩
  cases o <;> rfl

theorem goes_at {nb : Nat → List Nat} {hold : Nat → Nat} {all : Bool} {f n w : Nat} {s : St} (h : s.ws[n]? = some w) : goes nb hold all (f + 1) n s = match scan hold all w (nb w) s with
    | (s', some r) => (s', some r)
    | (s', none) => goes nb hold all f (n + 1) s' := by
  rw [goes, h]

theorem goes_end {nb : Nat → List Nat} {hold : Nat → Nat} {all : Bool} {f n : Nat} {s : St} (h : s.ws.length ≤ n) : goes nb hold all f n s = (s, none) := by
  cases f with
  | zero => rfl
  | succ f => rw [goes, List.getElem?_eq_none h]

/-! ### what holds of it -/
/-- who holds each item, plus one; each item is held once, of those that its holder may have -/
structure Held (nb : Nat → List Nat) (has : Nat → Option Nat) (hold : Nat → Nat) : Prop where
  hold : ∀ k w, hold k = w + 1 ↔ has w = some k
  fits : ∀ w k, has w = some k → k ∈ nb w

theorem Held.inj {nb : Nat → List Nat} {has : Nat → Option Nat} {hold : Nat → Nat} (h : Held nb has hold) {w w' k : Nat} (h1 : has w = some k) (h2 : has w' = some k) : w = w' := by
  have e1 := (h.hold k w).2 h1
  have e2 := (h.hold k w').2 h2
  omega
theorem Held.free {nb : Nat → List Nat} {has : Nat → Option Nat} {hold : Nat → Nat} (h : Held nb has hold) {k : Nat} (h0 : hold k = 0) (w : Nat) : has w ≠ some k := by
  intro e
  have := (h.hold k w).2 e
  omega

structure Inv (nb : Nat → List Nat) (has : Nat → Option Nat) (start : Nat) (s : St) : Prop where
  head : s.ws[0]? = some start
  nodup : s.ws.Nodup
  rest : ∀ j w, s.ws[j + 1]? = some w → ∃ k i j', has w = some k ∧ s.came k = i + 1 ∧ j' ≤ j ∧ s.ws[j']? = some i
  came : ∀ k i, s.came k = i + 1 → k ∈ nb i ∧ i ∈ s.ws
  held : ∀ k w, 0 < s.came k → has w = some k → w ∈ s.ws

theorem Inv.start {nb : Nat → List Nat} {has : Nat → Option Nat} {start : Nat} : Inv nb has start ⟨[start], fun _ => 0⟩ :=
  ⟨rfl, by simp, fun j w h => by simp at h, fun k i h => by simp at h, fun k w h => by simp at h⟩

theorem Inv.step {nb : Nat → List Nat} {has : Nat → Option Nat} {hold : Nat → Nat} {start : Nat} {s : St} (h : Inv nb has start s) (hH : Held nb has hold) (h0 : has start = none) (all : Bool) {who k : Nat} (hw : who ∈ s.ws) (hk : k ∈ nb who) :
    Inv nb has start (step hold all who s k).1 := by
  unfold Way.step
  by_cases h1 : 0 < s.came k
  · rw [if_pos h1]; exact h
  · rw [if_neg h1]
    have hc0 : s.came k = 0 := by omega
    have hcame : ∀ k' i, mark s.came k (who + 1) k' = i + 1 → k' ∈ nb i ∧ i ∈ s.ws := by
      intro k' i e
      by_cases ek : k' = k
      · subst ek
        rw [mark_same] at e
        obtain rfl : who = i := by omega
        exact ⟨hk, hw⟩
      · rw [mark_other ek] at e
        exact h.came k' i e
    have hrest : ∀ j w, s.ws[j + 1]? = some w → ∃ k' i j', has w = some k' ∧ mark s.came k (who + 1) k' = i + 1 ∧ j' ≤ j ∧ s.ws[j']? = some i := by
      intro j w hj
      obtain ⟨k', i, j', a1, a2, a3, a4⟩ := h.rest j w hj
      have ek : k' ≠ k := fun e => by rw [e, hc0] at a2; omega
      exact ⟨k', i, j', a1, by rw [mark_other ek]; exact a2, a3, a4⟩
    by_cases h2 : 0 < hold k
    · rw [if_pos h2]
      obtain ⟨w, hwk⟩ : ∃ w, hold k = w + 1 := ⟨hold k - 1, by omega⟩
      have hhas := (hH.hold k w).1 hwk
      rw [hwk, Nat.add_sub_cancel]
      have hnew : w ∉ s.ws := by
        intro hm
        obtain ⟨j, hj⟩ := List.mem_iff_getElem?.1 hm
        cases j with
        | zero =>
          rw [h.head] at hj
          cases hj
          rw [h0] at hhas; cases hhas
        | succ j =>
          obtain ⟨k', i, j', a1, a2, _, _⟩ := h.rest j w hj
          rw [hhas] at a1
          cases a1
          omega
      refine ⟨?_, ?_, ?_, fun k' i e => ?_, fun k' w' e1 e2 => ?_⟩
      · have : 0 < s.ws.length := List.length_pos_of_mem hw
        show (s.ws ++ [w])[0]? = some start
        rw [List.getElem?_append_left this]; exact h.head
      · show (s.ws ++ [w]).Nodup
        rw [List.nodup_append]
        exact ⟨h.nodup, by simp, fun a ha b hb e => by simp at hb; subst hb; exact hnew (e ▸ ha)⟩
      · intro j w' hj
        rcases Nat.lt_or_ge (j + 1) s.ws.length with hlt | hge
        · rw [show (s.ws ++ [w])[j + 1]? = s.ws[j + 1]? from List.getElem?_append_left hlt] at hj
          obtain ⟨k', i, j', a1, a2, a3, a4⟩ := hrest j w' hj
          exact ⟨k', i, j', a1, a2, a3, by rw [show (s.ws ++ [w])[j']? = s.ws[j']? from List.getElem?_append_left (by omega)]; exact a4⟩
        · rw [show (s.ws ++ [w])[j + 1]? = [w][j + 1 - s.ws.length]? from List.getElem?_append_right hge] at hj
          have hj0 : j + 1 - s.ws.length = 0 := by
            have := (List.getElem?_eq_some_iff.1 hj).1
            simp at this; omega
          rw [hj0] at hj
          simp at hj
          subst hj
          obtain ⟨j', hj'⟩ := List.mem_iff_getElem?.1 hw
          have hjl := (List.getElem?_eq_some_iff.1 hj').1
          exact ⟨k, who, j', hhas, mark_same _ _ _, by omega, by rw [show (s.ws ++ [w])[j']? = s.ws[j']? from List.getElem?_append_left hjl]; exact hj'⟩
      · obtain ⟨a1, a2⟩ := hcame k' i e
        exact ⟨a1, List.mem_append_left _ a2⟩
      · show w' ∈ s.ws ++ [w]
        by_cases ek : k' = k
        · subst ek
          rw [hH.inj e2 hhas]; simp
        · have e1' : 0 < mark s.came k (who + 1) k' := e1
          rw [mark_other ek] at e1'
          exact List.mem_append_left _ (h.held k' w' e1' e2)
    · rw [if_neg h2]
      refine ⟨h.head, h.nodup, hrest, hcame, fun k' w' e1 e2 => ?_⟩
      by_cases ek : k' = k
      · subst ek
        exact absurd e2 (hH.free (by omega) w')
      · have e1' : 0 < mark s.came k (who + 1) k' := e1
        rw [mark_other ek] at e1'
        exact h.held k' w' e1' e2

/-- it only grows -/
structure Grows (s s' : St) : Prop where
  ws : s.ws <+: s'.ws
  came : ∀ k, 0 < s.came k → s'.came k = s.came k

theorem Grows.refl (s : St) : Grows s s := ⟨List.prefix_refl _, fun _ _ => rfl⟩
theorem Grows.trans {s s' s'' : St} (h : Grows s s') (h' : Grows s' s'') : Grows s s'' :=
  ⟨h.ws.trans h'.ws, fun k hk => by rw [h'.came k (by rw [h.came k hk]; exact hk), h.came k hk]⟩
theorem Grows.step (hold : Nat → Nat) (all : Bool) (who : Nat) (s : St) (k : Nat) : Grows s (Way.step hold all who s k).1 := by
  unfold Way.step
  by_cases h1 : 0 < s.came k
  · rw [if_pos h1]; exact Grows.refl s
  · rw [if_neg h1]
    have hm : ∀ k', 0 < s.came k' → mark s.came k (who + 1) k' = s.came k' := fun k' h => mark_other fun e => h1 (e ▸ h)
    by_cases h2 : 0 < hold k
    · rw [if_pos h2]; exact ⟨List.prefix_append _ _, hm⟩
    · rw [if_neg h2]; exact ⟨List.prefix_refl _, hm⟩
theorem Grows.mem {s s' : St} (h : Grows s s') {w : Nat} (hw : w ∈ s.ws) : w ∈ s'.ws := h.ws.subset hw
theorem Grows.at {s s' : St} (h : Grows s s') {n w : Nat} (hw : s.ws[n]? = some w) : s'.ws[n]? = some w := by
  obtain ⟨t, ht⟩ := h.ws
  rw [← ht, List.getElem?_append_left (List.getElem?_eq_some_iff.1 hw).1]; exact hw

theorem step_came {hold : Nat → Nat} {all : Bool} {who : Nat} {s : St} {k : Nat} : 0 < (step hold all who s k).1.came k := by
  unfold step
  by_cases h1 : 0 < s.came k
  · rw [if_pos h1]; exact h1
  · rw [if_neg h1]
    by_cases h2 : 0 < hold k
    · rw [if_pos h2]; simp [mark_same]
    · rw [if_neg h2]; simp [mark_same]

/-- whoever came to an item did so by his list -/
theorem scan_inv {nb : Nat → List Nat} {has : Nat → Option Nat} {hold : Nat → Nat} {start : Nat} (hH : Held nb has hold) (h0 : has start = none) (all : Bool) {who : Nat} : ∀ (ks : List Nat) (s : St), (∀ k, k ∈ ks → k ∈ nb who) → who ∈ s.ws → Inv nb has start s →
    Inv nb has start (scan hold all who ks s).1 ∧ Grows s (scan hold all who ks s).1
  | [], s, _, _, h => ⟨h, Grows.refl s⟩
  | k :: ks, s, hks, hw, h => by
    have h1 := h.step hH h0 all hw (hks k List.mem_cons_self)
    have g1 := Grows.step hold all who s k
    simp only [scan]
    rcases hst : step hold all who s k with ⟨s', o⟩
    rw [hst] at h1 g1
    cases o with
    | some r => exact ⟨h1, g1⟩
    | none =>
      obtain ⟨h2, g2⟩ := scan_inv hH h0 all ks s' (fun x hx => hks x (List.mem_cons_of_mem _ hx)) (g1.mem hw) h1
      exact ⟨h2, g1.trans g2⟩

theorem goes_inv {nb : Nat → List Nat} {has : Nat → Option Nat} {hold : Nat → Nat} {start : Nat} (hH : Held nb has hold) (h0 : has start = none) (all : Bool) : ∀ (f n : Nat) (s : St), Inv nb has start s →
    Inv nb has start (goes nb hold all f n s).1 ∧ Grows s (goes nb hold all f n s).1
  | 0, _, s, h => ⟨h, Grows.refl s⟩
  | f + 1, n, s, h => by
    cases hw : s.ws[n]? with
    | none => rw [goes, hw]; exact ⟨h, Grows.refl s⟩
    | some w =>
      rw [goes_at hw]
      obtain ⟨h1, g1⟩ := scan_inv hH h0 all (nb w) s (fun _ hk => hk) (List.mem_of_getElem? hw) h
      rcases hst : scan hold all w (nb w) s with ⟨s', o⟩
      rw [hst] at h1 g1
      cases o with
      | some r => exact ⟨h1, g1⟩
      | none =>
        obtain ⟨h2, g2⟩ := goes_inv hH h0 all f (n + 1) s' h1
        exact ⟨h2, g1.trans g2⟩

/-- no more are come to than there are items, and one -/
theorem Inv.length {nb : Nat → List Nat} {has : Nat → Option Nat} {hold : Nat → Nat} {start N : Nat} {s : St} (h : Inv nb has start s) (hH : Held nb has hold) (hN : ∀ w k, has w = some k → k < N) : s.ws.length ≤ N + 1 := by
  rcases hws : s.ws with _ | ⟨a, l⟩
  · simp
  · have hn := h.nodup
    rw [hws] at hn
    have hl : ∀ w, w ∈ l → ∃ k, has w = some k ∧ k ∈ List.range N := by
      intro w hw
      obtain ⟨j, hj⟩ := List.mem_iff_getElem?.1 hw
      obtain ⟨k, i, j', a1, _⟩ := h.rest j w (by rw [hws]; simpa using hj)
      exact ⟨k, a1, List.mem_range.2 (hN w k a1)⟩
    obtain ⟨h1, h2, h3⟩ := inj_len (List.nodup_cons.1 hn).2 hl fun w w' k _ _ e1 e2 => hH.inj e1 e2
    have := nodup_len h1 h3
    simp at this
    simp; omega

/-! ### the end of it -/
theorem step_some {hold : Nat → Nat} {all : Bool} {who : Nat} {s s' : St} {k r : Nat} (h : step hold all who s k = (s', some r)) : r = k ∧ hold k = 0 ∧ s'.came k = who + 1 ∧ all = false ∧ s'.ws = s.ws := by
  unfold step at h
  by_cases h1 : 0 < s.came k
  · rw [if_pos h1] at h; cases h
  · rw [if_neg h1] at h
    by_cases h2 : 0 < hold k
    · rw [if_pos h2] at h; cases h
    · rw [if_neg h2] at h
      cases all with
      | true => simp at h
      | false =>
        simp at h
        obtain ⟨rfl, rfl⟩ := h
        exact ⟨rfl, by omega, mark_same _ _ _, rfl, rfl⟩

theorem step_none {hold : Nat → Nat} {who : Nat} {s s' : St} {k : Nat} (h : step hold false who s k = (s', none)) : 0 < s.came k ∨ 0 < hold k := by
  unfold step at h
  by_cases h1 : 0 < s.came k
  · exact .inl h1
  · by_cases h2 : 0 < hold k
    · exact .inr h2
    · rw [if_neg h1, if_neg h2] at h; simp at h

theorem scan_some {hold : Nat → Nat} {all : Bool} {who : Nat} : ∀ {ks : List Nat} {s s' : St} {r : Nat}, scan hold all who ks s = (s', some r) → r ∈ ks ∧ hold r = 0 ∧ s'.came r = who + 1 ∧ all = false
  | [], _, _, _, h => by cases h
  | k :: ks, s, s', r, h => by
    simp only [scan] at h
    rcases hst : step hold all who s k with ⟨s1, o⟩
    rw [hst] at h
    cases o with
    | some r' =>
      simp only [Prod.mk.injEq, Option.some.injEq] at h
      obtain ⟨rfl, rfl⟩ := h
      obtain ⟨rfl, h1, h2, h3, _⟩ := step_some hst
      exact ⟨List.mem_cons_self, h1, h2, h3⟩
    | none =>
      obtain ⟨h1, h2⟩ := scan_some h
      exact ⟨List.mem_cons_of_mem _ h1, h2⟩

/-- all of a list are come to, when none was found -/
theorem scan_none {hold : Nat → Nat} {all : Bool} {who : Nat} : ∀ {ks : List Nat} {s s' : St}, scan hold all who ks s = (s', none) → Grows s s' ∧ (∀ k, k ∈ ks → 0 < s'.came k) ∧ (all = false → (∀ k, 0 < s.came k → 0 < hold k) → ∀ k, 0 < s'.came k → 0 < hold k)
  | [], s, s', h => by
    cases h
    exact ⟨Grows.refl s, fun _ h => absurd h List.not_mem_nil, fun _ h => h⟩
  | k :: ks, s, s', h => by
    simp only [scan] at h
    rcases hst : step hold all who s k with ⟨s1, o⟩
    rw [hst] at h
    cases o with
    | some r => cases h
    | none =>
      have g1 := Grows.step hold all who s k
      have c1 := step_came (hold := hold) (all := all) (who := who) (s := s) (k := k)
      rw [hst] at g1 c1
      obtain ⟨g2, h2, h3⟩ := scan_none h
      refine ⟨g1.trans g2, fun x hx => ?_, fun ha hs => h3 ha fun x hx => ?_⟩
      · rcases List.mem_cons.1 hx with rfl | hx
        · rw [g2.came x c1]; exact c1
        · exact h2 x hx
      · subst ha
        have hk := step_none hst
        have hx' : 0 < s.came x ∨ x = k := by
          unfold step at hst
          by_cases h1 : 0 < s.came k
          · rw [if_pos h1] at hst; cases hst; exact .inl hx
          · rw [if_neg h1] at hst
            by_cases e : x = k
            · exact .inr e
            · left
              by_cases h2 : 0 < hold k
              · rw [if_pos h2] at hst
                cases hst
                have hx2 : 0 < mark s.came k (who + 1) x := hx
                rwa [mark_other e] at hx2
              · rw [if_neg h2] at hst; simp at hst
        rcases hx' with hx' | rfl
        · exact hs x hx'
        · exact hk.elim (fun h => hs _ h) id

theorem goes_some {nb : Nat → List Nat} {hold : Nat → Nat} {all : Bool} : ∀ {f n : Nat} {s s' : St} {r : Nat}, goes nb hold all f n s = (s', some r) → hold r = 0 ∧ 0 < s'.came r ∧ all = false
  | 0, _, _, _, _, h => by cases h
  | f + 1, n, s, s', r, h => by
    cases hw : s.ws[n]? with
    | none => rw [goes, hw] at h; cases h
    | some w =>
      rw [goes_at hw] at h
      rcases hst : scan hold all w (nb w) s with ⟨s1, o⟩
      rw [hst] at h
      cases o with
      | some r' =>
        simp only [Prod.mk.injEq, Option.some.injEq] at h
        obtain ⟨rfl, rfl⟩ := h
        obtain ⟨_, h1, h2, h3⟩ := scan_some hst
        exact ⟨h1, by omega, h3⟩
      | none => exact goes_some h

/-- when none was found all that are come to have come to all of theirs -/
theorem goes_none {nb : Nat → List Nat} {hold : Nat → Nat} {all : Bool} : ∀ {f n : Nat} {s s' : St}, goes nb hold all f n s = (s', none) → s'.ws.length ≤ n + f → (∀ j w, j < n → s.ws[j]? = some w → ∀ k, k ∈ nb w → 0 < s.came k) →
    (∀ w, w ∈ s'.ws → ∀ k, k ∈ nb w → 0 < s'.came k) ∧ (all = false → (∀ k, 0 < s.came k → 0 < hold k) → ∀ k, 0 < s'.came k → 0 < hold k)
  | 0, n, s, s', h, hf, hall => by
    cases h
    refine ⟨fun w hw => ?_, fun _ h => h⟩
    obtain ⟨j, hj⟩ := List.mem_iff_getElem?.1 hw
    have := (List.getElem?_eq_some_iff.1 hj).1
    exact hall j w (by omega) hj
  | f + 1, n, s, s', h, hf, hall => by
    cases hw : s.ws[n]? with
    | none =>
      rw [goes, hw] at h
      cases h
      refine ⟨fun w hw' => ?_, fun _ h => h⟩
      obtain ⟨j, hj⟩ := List.mem_iff_getElem?.1 hw'
      have := (List.getElem?_eq_some_iff.1 hj).1
      have := List.getElem?_eq_none_iff.1 hw
      exact hall j w (by omega) hj
    | some w =>
      rw [goes_at hw] at h
      rcases hst : scan hold all w (nb w) s with ⟨s1, o⟩
      rw [hst] at h
      cases o with
      | some r => cases h
      | none =>
        obtain ⟨g1, h1, h2⟩ := scan_none hst
        obtain ⟨r1, r2⟩ := goes_none (f := f) (n := n + 1) h (by omega) (fun j w' hj hw' k hk => by
          rcases Nat.lt_or_ge j n with hlt | hge
          · have hjs : s.ws[j]? = some w' := by
              obtain ⟨t, ht⟩ := g1.ws
              have hl : j < s.ws.length := by have := (List.getElem?_eq_some_iff.1 hw).1; omega
              rw [← ht, List.getElem?_append_left hl] at hw'; exact hw'
            have := hall j w' hlt hjs k hk
            rw [g1.came k this]; exact this
          · obtain rfl : j = n := by omega
            rw [g1.at hw] at hw'
            cases hw'
            exact h1 k hk)
        exact ⟨r1, fun ha hs => r2 ha (h2 ha hs)⟩

/-! ### whom one comes to, said without a search -/
inductive Reach (nb : Nat → List Nat) (has : Nat → Option Nat) (start : Nat) : Nat → Prop
  | base : Reach nb has start start
  | more {w k w' : Nat} : Reach nb has start w → k ∈ nb w → has w' = some k → Reach nb has start w'

theorem Inv.reach {nb : Nat → List Nat} {has : Nat → Option Nat} {start : Nat} {s : St} (h : Inv nb has start s) : ∀ (n j w : Nat), j ≤ n → s.ws[j]? = some w → Reach nb has start w
  | n, 0, w, _, hj => by rw [h.head] at hj; cases hj; exact .base
  | 0, j + 1, w, hn, hj => absurd hn (by omega)
  | n + 1, j + 1, w, hn, hj => by
    obtain ⟨k, i, j', a1, a2, a3, a4⟩ := h.rest j w hj
    exact .more (h.reach n j' i (by omega) a4) (h.came k i a2).1 a1

theorem Inv.reached {nb : Nat → List Nat} {has : Nat → Option Nat} {start : Nat} {s : St} (h : Inv nb has start s) {w : Nat} (hw : w ∈ s.ws) : Reach nb has start w := by
  obtain ⟨j, hj⟩ := List.mem_iff_getElem?.1 hw
  exact h.reach j j w (Nat.le_refl _) hj

theorem Inv.all {nb : Nat → List Nat} {has : Nat → Option Nat} {start : Nat} {s : St} (h : Inv nb has start s) (hf : ∀ w, w ∈ s.ws → ∀ k, k ∈ nb w → 0 < s.came k) {w : Nat} (hr : Reach nb has start w) : w ∈ s.ws := by
  induction hr with
  | base => exact List.mem_of_getElem? h.head
  | more _ hk hw ih => exact h.held _ _ (hf _ ih _ hk) hw

end Way
