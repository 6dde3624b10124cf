/- Plain mathematics: a matching of as many as can be, one way after the other; too few items for too many: the first of the least such sets. -/
import Derived.Test.YtbnjeegicbffeaaRise
namespace Way
open Sale (upd upd_same upd_other within mem_within)

/-- who holds an item, of those below n, plus one; 0: nobody -/
def holdTo (has : Nat → Option Nat) : Nat → Nat → Nat
  | 0, _ => 0
  | n + 1, k => if has n = some k then n + 1 else holdTo has n k

theorem holdTo_some {has : Nat → Option Nat} : ∀ {n k w : Nat}, holdTo has n k = w + 1 → w < n ∧ has w = some k
  | 0, k, w, h => by simp [holdTo] at h
  | n + 1, k, w, h => by
    rw [holdTo] at h
    by_cases e : has n = some k
    · rw [if_pos e] at h
      obtain rfl : n = w := by omega
      exact ⟨by omega, e⟩
    · rw [if_neg e] at h
      have := holdTo_some h
      exact ⟨by omega, this.2⟩

theorem holdTo_of {has : Nat → Option Nat} (hinj : ∀ w w' k, has w = some k → has w' = some k → w = w') : ∀ {n k w : Nat}, w < n → has w = some k → holdTo has n k = w + 1
  | n + 1, k, w, hw, h => by
    rw [holdTo]
    by_cases e : has n = some k
    · rw [if_pos e, hinj n w k e h]
    · rw [if_neg e]
      have : w ≠ n := fun e' => e (e' ▸ h)
      exact holdTo_of hinj (by omega) h

theorem holdTo_zero {has : Nat → Option Nat} {k : Nat} (h : ∀ w, has w ≠ some k) : ∀ n, holdTo has n k = 0
  | 0 => rfl
  | n + 1 => by rw [holdTo, if_neg (h n)]; exact holdTo_zero h n

/-- a matching of what each may have, of bidders below n -/
structure Mat (nb : Nat → List Nat) (n : Nat) (has : Nat → Option Nat) : Prop where
  lt : ∀ w k, has w = some k → w < n
  inj : ∀ w w' k, has w = some k → has w' = some k → w = w'
  fits : ∀ w k, has w = some k → k ∈ nb w

theorem Mat.held {nb : Nat → List Nat} {n n' : Nat} {has : Nat → Option Nat} (h : Mat nb n has) (hn : n ≤ n') : Held nb has (holdTo has n') :=
  ⟨fun k w => ⟨fun e => (holdTo_some e).2, fun e => holdTo_of h.inj (Nat.lt_of_lt_of_le (h.lt w k e) hn) e⟩, h.fits⟩

theorem Mat.went {nb : Nat → List Nat} {n n' start k : Nat} {ws : List Nat} {has h' : Nat → Option Nat} (h : Mat nb n has) (hn : n ≤ n') (hs : start < n') (hw : Went nb start k ws has h') : Mat nb n' h' :=
  ⟨fun w r hr => by
    by_cases e : w = start
    · omega
    · have : has w ≠ none := fun e0 => by rw [(hw.dom w).2 ⟨e0, e⟩] at hr; cases hr
      obtain ⟨r', hr'⟩ := Option.ne_none_iff_exists'.1 this
      exact Nat.lt_of_lt_of_le (h.lt w r' hr') hn, hw.inj, hw.fits⟩

/-- one way after the other, of the first n bidders -/
def mostTo (nb : Nat → List Nat) (M : Nat) : Nat → (Nat → Option Nat)
  | 0 => fun _ => none
  | i + 1 => (more nb (holdTo (mostTo nb M i) M) (mostTo nb M i) i).getD (mostTo nb M i)

theorem mostTo_mat {nb : Nat → List Nat} {M : Nat} (h8 : ∀ w, w < M → ∀ k, k ∈ nb w → k < 8) : ∀ i, i ≤ M → Mat nb i (mostTo nb M i)
  | 0, _ => ⟨fun w k h => by simp [mostTo] at h, fun w w' k h => by simp [mostTo] at h, fun w k h => by simp [mostTo] at h⟩
  | i + 1, hi => by
    have ih := mostTo_mat h8 i (by omega)
    have h0 : mostTo nb M i i = none := by
      cases h : mostTo nb M i i with
      | none => rfl
      | some k => have := ih.lt i k h; omega
    rw [mostTo]
    cases hm : more nb (holdTo (mostTo nb M i) M) (mostTo nb M i) i with
    | none => exact ⟨fun w k h => by have := ih.lt w k h; omega, ih.inj, ih.fits⟩
    | some h' =>
      obtain ⟨k, s, hw, _⟩ := more_went (ih.held (by omega)) h0 (fun w k h => h8 w (by have := ih.lt w k h; omega) k (ih.fits w k h)) hm
      exact ih.went (by omega) (by omega) hw

/-- whoever has one has one for good; who found none is one of too many for too few -/
theorem mostTo_keeps {nb : Nat → List Nat} {M : Nat} (h8 : ∀ w, w < M → ∀ k, k ∈ nb w → k < 8) {j : Nat} (hj : j < M) : ∀ i, j < i → i ≤ M →
    mostTo nb M i j ≠ none ∨ ∃ R C, Few nb j R C ∧ Stuck nb j R (mostTo nb M i) ∧ C.Nodup ∧ (∀ k, k ∈ C → k < 8) ∧ (∀ w, w ∈ R → w < M ∧ (w = j ∨ nb w ≠ []))
  | 0, h, _ => absurd h (by omega)
  | i + 1, hji, hi => by
    have ih := mostTo_mat (nb := nb) h8 i (by omega)
    have h0 : mostTo nb M i i = none := by
      cases h : mostTo nb M i i with
      | none => rfl
      | some k => have := ih.lt i k h; omega
    have hH := ih.held (n' := M) (by omega)
    have h88 : ∀ w k, mostTo nb M i w = some k → k < 8 := fun w k h => h8 w (by have := ih.lt w k h; omega) k (ih.fits w k h)
    rw [mostTo]
    cases hm : more nb (holdTo (mostTo nb M i) M) (mostTo nb M i) i with
    | none =>
      rw [Option.getD_none]
      rcases Nat.lt_or_ge j i with hlt | hge
      · exact mostTo_keeps h8 hj i hlt (by omega)
      · obtain rfl : j = i := by omega
        obtain ⟨R, C, hF, hS, hC, hCk, hR⟩ := stuck_of_none hH h0 h88 hm
        refine .inr ⟨R, C, hF, hS, hC, fun k hk => ?_, fun w hw => ?_⟩
        · obtain ⟨w, e⟩ := hCk k hk; exact h88 w k e
        · rcases reach_holds (hR w hw) with e | ⟨k, _, e, _⟩
          · exact ⟨by omega, .inl e⟩
          · exact ⟨by have := ih.lt w k e; omega, .inr fun en => by have := ih.fits w k e; rw [en] at this; cases this⟩
    | some h' =>
      rw [Option.getD_some]
      obtain ⟨k, s, hw, _⟩ := more_went hH h0 h88 hm
      rcases Nat.lt_or_ge j i with hlt | hge
      · rcases mostTo_keeps h8 hj i hlt (by omega) with h1 | ⟨R, C, hF, hS, hC, hCk, hR⟩
        · exact .inl fun e => h1 ((hw.dom j).1 e).1
        · exact .inr ⟨R, C, hF, hS.went (by omega) hw, hC, hCk, hR⟩
      · obtain rfl : j = i := by omega
        exact .inl fun e => ((hw.dom j).1 e).2 rfl

/-! ### all of some -/
/-- what some alone may have -/
def alone (nb : Nat → List Nat) (some' : List Nat) (i : Nat) : List Nat := if i ∈ some' then nb i else []
/-- can all of some have an item? -/
def allOf (nb : Nat → List Nat) (M : Nat) (some' : List Nat) : Bool := some'.all fun i => (mostTo (alone nb some') M M i).isSome

/-- too many want these, and nothing else -/
def viol (nb : Nat → List Nat) (some' X : List Nat) : Bool := decide (X.length < (within nb some' X).length)

theorem allOf_no {nb : Nat → List Nat} {M : Nat} {some' : List Nat} (h8 : ∀ w, w < M → ∀ k, k ∈ nb w → k < 8) (hsM : ∀ i, i ∈ some' → i < M) (h : allOf nb M some' = false) :
    ∃ C : List Nat, C.Nodup ∧ (∀ k, k ∈ C → k < 8 ∧ ∃ w, w ∈ some' ∧ k ∈ nb w) ∧ viol nb some' C = true := by
  unfold allOf at h
  rw [List.all_eq_false] at h
  obtain ⟨i, hi, hnone⟩ := h
  have h8' : ∀ w, w < M → ∀ k, k ∈ alone nb some' w → k < 8 := fun w hw k hk => by
    unfold alone at hk
    split at hk
    · exact h8 w hw k hk
    · cases hk
  rcases mostTo_keeps h8' (hsM i hi) M (hsM i hi) (Nat.le_refl _) with h1 | ⟨R, C, hF, hS, hC, hCk, hR⟩
  · exact absurd (Option.isSome_iff_ne_none.2 h1) hnone
  · have hRs : ∀ w, w ∈ R → w ∈ some' := fun w hw => by
      rcases (hR w hw).2 with e | e
      · rw [e]; exact hi
      · apply Classical.byContradiction
        intro hn
        exact e (by rw [alone, if_neg hn])
    refine ⟨C, hC, fun k hk => ⟨hCk k hk, ?_⟩, ?_⟩
    · obtain ⟨w, hw, _, e⟩ := hS.held hF hk
      have := hS.fits w k e
      rw [alone, if_pos (hRs w hw)] at this
      exact ⟨w, hRs w hw, this⟩
    · unfold viol
      rw [decide_eq_true_eq]
      have := nodup_len hF.nodup (m := within nb some' C) fun w hw => mem_within.2 ⟨hRs w hw, fun k hk => hF.near w hw k (by rw [alone, if_pos (hRs w hw)]; exact hk)⟩
      have := hF.few
      omega

theorem allOf_yes {nb : Nat → List Nat} {M : Nat} {some' : List Nat} (h8 : ∀ w, w < M → ∀ k, k ∈ nb w → k < 8) (hn : some'.Nodup) (h : allOf nb M some' = true) (X : List Nat) : viol nb some' X = false := by
  have h8' : ∀ w, w < M → ∀ k, k ∈ alone nb some' w → k < 8 := fun w hw k hk => by
    unfold alone at hk
    split at hk
    · exact h8 w hw k hk
    · cases hk
  have hM := mostTo_mat h8' M (Nat.le_refl _)
  unfold viol
  rw [decide_eq_false_iff_not, Nat.not_lt]
  obtain ⟨h1, h2, h3⟩ := inj_len (R := within nb some' X) (C := X) (f := mostTo (alone nb some') M M) (hn.filter _) (fun i hi => by
    obtain ⟨hi1, hi2⟩ := mem_within.1 hi
    have := List.all_eq_true.1 h i hi1
    obtain ⟨k, hk⟩ := Option.isSome_iff_exists.1 this
    have hf := hM.fits i k hk
    rw [alone, if_pos hi1] at hf
    exact ⟨k, hk, hi2 k hf⟩) fun w w' k _ _ => hM.inj w w' k
  rw [← h2]; exact nodup_len h1 h3

/-- the matching itself, of all of some -/
theorem allOf_mat {nb : Nat → List Nat} {M : Nat} {some' : List Nat} (h8 : ∀ w, w < M → ∀ k, k ∈ nb w → k < 8) (h : allOf nb M some' = true) :
    Mat nb M (mostTo (alone nb some') M M) ∧ ∀ i, i ∈ some' → ∃ k, mostTo (alone nb some') M M i = some k := by
  have h8' : ∀ w, w < M → ∀ k, k ∈ alone nb some' w → k < 8 := fun w hw k hk => by
    unfold alone at hk
    split at hk
    · exact h8 w hw k hk
    · cases hk
  have hM := mostTo_mat h8' M (Nat.le_refl _)
  refine ⟨⟨hM.lt, hM.inj, fun w k e => ?_⟩, fun i hi => Option.isSome_iff_exists.1 (List.all_eq_true.1 h i hi)⟩
  have := hM.fits w k e
  unfold alone at this
  split at this
  · exact this
  · cases this

/-- as many have one as some are: just if all of some have one -/
theorem allOf_many {nb : Nat → List Nat} {M : Nat} {some' : List Nat} (h8 : ∀ w, w < M → ∀ k, k ∈ nb w → k < 8) (hn : some'.Nodup) (hsM : ∀ i, i ∈ some' → i < M) :
    decide (((List.range M).filter fun i => (mostTo (alone nb some') M M i).isSome).length = some'.length) = allOf nb M some' := by
  have h8' : ∀ w, w < M → ∀ k, k ∈ alone nb some' w → k < 8 := fun w hw k hk => by
    unfold alone at hk
    split at hk
    · exact h8 w hw k hk
    · cases hk
  have hM := mostTo_mat h8' M (Nat.le_refl _)
  have hsub : ∀ i, i ∈ (List.range M).filter (fun i => (mostTo (alone nb some') M M i).isSome) → i ∈ some' := fun i hi => by
    obtain ⟨k, hk⟩ := Option.isSome_iff_exists.1 (List.mem_filter.1 hi).2
    have := hM.fits i k hk
    unfold alone at this
    split at this
    · assumption
    · cases this
  have hnd : ((List.range M).filter fun i => (mostTo (alone nb some') M M i).isSome).Nodup := List.nodup_range.filter _
  rw [Bool.eq_iff_iff, decide_eq_true_eq]
  unfold allOf
  rw [List.all_eq_true]
  constructor
  · intro h i hi
    exact (List.mem_filter.1 (nodup_all hnd hsub (by omega) i hi)).2
  · intro h
    apply Nat.le_antisymm
    · exact nodup_len hnd hsub
    · exact nodup_len hn fun i hi => List.mem_filter.2 ⟨List.mem_range.2 (hsM i hi), h i hi⟩

/-! ### the first of the least sets -/
/-- sets of so many of the items from some one on, in order, each behind those that are ahead -/
def sets (N : Nat) : Nat → Nat → List Nat → List (List Nat)
  | 0, _, ahead => [ahead]
  | c + 1, start, ahead => (List.range' start (N - c - start)).flatMap fun k => sets N c (k + 1) (ahead ++ [k])

theorem sets_mem {N : Nat} : ∀ (c start : Nat) (ahead l : List Nat), l.length = c → l.Pairwise (· < ·) → (∀ x, x ∈ l → start ≤ x ∧ x < N) → ahead ++ l ∈ sets N c start ahead
  | 0, _, ahead, l, h, _, _ => by
    obtain rfl : l = [] := List.eq_nil_of_length_eq_zero h
    simp [sets]
  | c + 1, start, ahead, [], h, _, _ => by cases h
  | c + 1, start, ahead, x :: l, h, hp, hx => by
    obtain ⟨hp1, hp2⟩ := List.pairwise_cons.1 hp
    have hlen : l.length = c := by simpa using h
    have hx1 := hx x List.mem_cons_self
    -- those behind x are c numbers above x and below N
    have hroom : x + c < N := by
      have hn : (x :: l).Nodup := hp.imp fun h => by omega
      have := nodup_len hn (m := List.range' x (N - x)) fun y hy => by
        rw [List.mem_range'_1]
        rcases List.mem_cons.1 hy with rfl | hy
        · omega
        · have := hp1 y hy
          have := (hx y (List.mem_cons_of_mem _ hy)).2
          omega
      simp at this
      omega
    rw [sets, List.mem_flatMap]
    refine ⟨x, ?_, ?_⟩
    · rw [List.mem_range'_1]; omega
    · have := sets_mem c (x + 1) (ahead ++ [x]) l hlen hp2 fun y hy => ⟨hp1 y hy, (hx y (List.mem_cons_of_mem _ hy)).2⟩
      simpa using this

theorem sets_is {N : Nat} : ∀ (c start : Nat) (ahead l : List Nat), l ∈ sets N c start ahead → ∃ t, l = ahead ++ t ∧ t.length = c ∧ t.Pairwise (· < ·) ∧ ∀ x, x ∈ t → start ≤ x ∧ x < N
  | 0, _, ahead, l, h => by
    simp [sets] at h
    exact ⟨[], by simp [h], rfl, List.Pairwise.nil, fun _ h => absurd h List.not_mem_nil⟩
  | c + 1, start, ahead, l, h => by
    rw [sets, List.mem_flatMap] at h
    obtain ⟨k, hk, hl⟩ := h
    rw [List.mem_range'_1] at hk
    obtain ⟨t, rfl, hlen, hp, hx⟩ := sets_is c (k + 1) (ahead ++ [k]) l hl
    refine ⟨k :: t, by simp, by simp [hlen], List.pairwise_cons.2 ⟨fun y hy => by have := (hx y hy).1; omega, hp⟩, fun y hy => ?_⟩
    rcases List.mem_cons.1 hy with rfl | hy
    · exact ⟨hk.1, by omega⟩
    · have := hx y hy; omega

/-- the first of the least sets that too many want -/
def fewOf (nb : Nat → List Nat) (N : Nat) (some' : List Nat) : Option (List Nat) := (List.range (N + 1)).findSome? fun c => (sets N c 0 []).find? (viol nb some')

theorem viol_same {nb : Nat → List Nat} {some' X Y : List Nat} (h : ∀ k, k ∈ X ↔ k ∈ Y) (hl : X.length = Y.length) : viol nb some' X = viol nb some' Y := by
  unfold viol
  rw [show within nb some' X = within nb some' Y from List.filter_congr fun i _ => by
    rw [Bool.eq_iff_iff]; simp only [List.all_eq_true, List.contains_eq_mem, decide_eq_true_eq]
    exact ⟨fun a k hk => (h k).1 (a k hk), fun a k hk => (h k).2 (a k hk)⟩, hl]

/-- a set in order -/
theorem canon {N : Nat} {C : List Nat} (hn : C.Nodup) (hC : ∀ k, k ∈ C → k < N) : ∃ l : List Nat, l.Pairwise (· < ·) ∧ l.length = C.length ∧ ∀ k, k ∈ l ↔ k ∈ C := by
  have hm : ∀ k, k ∈ (List.range N).filter (fun k => C.contains k) ↔ k ∈ C := fun k => by
    rw [List.mem_filter, List.mem_range]
    simp only [List.contains_eq_mem, decide_eq_true_eq]
    exact ⟨fun h => h.2, fun h => ⟨hC k h, h⟩⟩
  exact ⟨(List.range N).filter (fun k => C.contains k), List.pairwise_lt_range.filter _, Nat.le_antisymm (nodup_len (List.nodup_range.filter _) fun k hk => (hm k).1 hk) (nodup_len hn fun k hk => (hm k).2 hk), hm⟩

theorem fewOf_some {nb : Nat → List Nat} {N : Nat} {some' X : List Nat} (h : fewOf nb N some' = some X) : Sale.Least nb some' N X ∧ X.Pairwise (· < ·) := by
  unfold fewOf at h
  obtain ⟨l1, c, l2, hl, hc, hbefore⟩ := List.findSome?_eq_some_iff.1 h
  have hm := List.mem_of_find?_eq_some hc
  have hv := List.find?_some hc
  obtain ⟨t, rfl, hlen, hp, hx⟩ := sets_is c 0 [] X hm
  have hl1 : l1 = List.range c := by
    have e1 : l1 = (List.range (N + 1)).take l1.length := by rw [hl]; simp
    have hc' : (List.range (N + 1))[l1.length]? = some c := by rw [hl]; simp
    have hlt := (List.getElem?_eq_some_iff.1 hc').1
    rw [List.getElem?_range (by simpa using hlt)] at hc'
    have e3 : l1.length = c := by simpa using hc'
    rw [e1, e3, List.take_range]
    congr 1
    simp at hlt
    omega
  refine ⟨⟨hp.imp fun h => by omega, fun k hk => (hx k hk).2, by simpa [viol] using hv, fun Y hY hYN hYlen => ?_⟩, hp⟩
  obtain ⟨l, hlp, hll, hlm⟩ := canon hY hYN
  have hnone := hbefore Y.length (by rw [hl1]; exact List.mem_range.2 (by omega))
  rw [List.find?_eq_none] at hnone
  have := hnone l (by simpa using sets_mem Y.length 0 [] l hll hlp fun x hx => ⟨Nat.zero_le _, hYN x ((hlm x).1 hx)⟩)
  rw [viol_same hlm hll] at this
  simpa [viol] using this

theorem fewOf_none {nb : Nat → List Nat} {N : Nat} {some' C : List Nat} (h : fewOf nb N some' = none) (hn : C.Nodup) (hC : ∀ k, k ∈ C → k < N) : viol nb some' C = false := by
  unfold fewOf at h
  rw [List.findSome?_eq_none_iff] at h
  obtain ⟨l, hlp, hll, hlm⟩ := canon hn hC
  have hlen : C.length ≤ N := by have := nodup_len hn (m := List.range N) fun k hk => List.mem_range.2 (hC k hk); simpa using this
  have := h C.length (List.mem_range.2 (by omega))
  rw [List.find?_eq_none] at this
  have := this l (by simpa using sets_mem C.length 0 [] l hll hlp fun x hx => ⟨Nat.zero_le _, hC x ((hlm x).1 hx)⟩)
  rw [viol_same hlm hll] at this
  simpa using this

/-- where all can have one there is no such set; where not there is one -/
theorem fewOf_all {nb : Nat → List Nat} {M N : Nat} {some' : List Nat} (h8 : ∀ w, w < M → ∀ k, k ∈ nb w → k < N) (hN : N ≤ 8) (hn : some'.Nodup) (hsM : ∀ i, i ∈ some' → i < M) :
    (fewOf nb N some').isNone = allOf nb M some' := by
  have h88 : ∀ w, w < M → ∀ k, k ∈ nb w → k < 8 := fun w hw k hk => by have := h8 w hw k hk; omega
  cases ha : allOf nb M some' with
  | true =>
    cases hf : fewOf nb N some' with
    | none => rfl
    | some X =>
      have h1 := (fewOf_some hf).1.many
      have h2 := allOf_yes h88 hn ha X
      unfold viol at h2
      rw [decide_eq_false_iff_not] at h2
      exact absurd h1 h2
  | false =>
    cases hf : fewOf nb N some' with
    | some X => rfl
    | none =>
      obtain ⟨C, hC, hCk, hv⟩ := allOf_no h88 hsM ha
      have := fewOf_none hf hC fun k hk => by
        obtain ⟨_, w, hw, hk⟩ := hCk k hk
        exact h8 w (hsM w hw) k hk
      rw [hv] at this; cases this

end Way
