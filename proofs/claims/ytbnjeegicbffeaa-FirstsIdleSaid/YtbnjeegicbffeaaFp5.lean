/- FirstsAhead in plain words: who stands first has had its turn; the others have what they would have of what is left. -/
import Derived.Test.YtbnjeegicbffeaaFp4
namespace Go.Proofs.Ytbnjeegicbffeaa
open Go.RowKit Sale

/-- what is left when the first has had its turn -/
theorem firsts_left {g g' : Nat → Nat → Int} {n who : Nat} {rest : List Nat} {m : Nat → Option Nat} (h : IsFirst g n (who :: rest) m)
    (hg : ∀ i, i ∈ who :: rest → ∀ k, k < n → g' i k = if i = who ∨ m who = some k then -1 else g i k) : IsFirst g' n (rest ++ [who]) (upd m who none) := by
  obtain ⟨hw, hn⟩ := List.nodup_cons.1 h.nodup
  have he := h.eq
  rw [List.map_cons] at he
  have key : rest.map m = firsts g' n rest (fun _ => true) := by
    unfold firsts at he
    cases hc : Sale.choose g n who rest (fun _ => true) with
    | none =>
      rw [hc] at he
      simp only [List.cons.injEq] at he
      rw [he.2]
      refine firsts_alike fun l hl r hr => ?_
      have hne : l ≠ who := fun e => hw (e ▸ hl)
      rw [hg l (List.mem_cons_of_mem _ hl) r hr, he.1]
      simp [hne]
    | some r0 =>
      rw [hc] at he
      simp only [List.cons.injEq] at he
      rw [he.2]
      refine firsts_alike fun l hl r hr => ?_
      have hne : l ≠ who := fun e => hw (e ▸ hl)
      rw [hg l (List.mem_cons_of_mem _ hl) r hr, he.1]
      by_cases e : r0 = r
      · subst e; simp [less, hne]
      · simp [less, hne, e, Ne.symm e]
  refine ⟨?_, ?_⟩
  · have := firsts_idle (g := g') (n := n) (i := who) (fun r hr => by rw [hg who List.mem_cons_self r hr]; simp) rest [] (fun _ => true) m hw (by simp) (by rw [List.append_nil]; exact key)
    exact this
  · rw [List.nodup_append]
    exact ⟨hn, by simp, fun a ha b hb e => by simp at hb; subst hb; exact hw (e ▸ ha)⟩

theorem slot_item {has : List Int} {i : Nat} {x : Int} (h : has[i]? = some x) (hge : -1 ≤ x) (k : Nat) : slotOf has i = some k ↔ x = (k : Int) := by
  rw [slot_of h]
  split
  · constructor
    · intro e; cases e
    · intro e; omega
  · constructor
    · intro e; have := Option.some.inj e; omega
    · intro e; subst e; simp

theorem slot_ext {has has' : List Int} {i : Nat} {x y : Int} (hx : has[i]? = some x) (hy : has'[i]? = some y) (h1 : -1 ≤ x) (h2 : -1 ≤ y) (h : slotOf has i = slotOf has' i) : x = y := by
  rw [slot_of hx, slot_of hy] at h
  split at h <;> split at h
  · omega
  · cases h
  · cases h
  · have := Option.some.inj h; omega

/-- the second answer -/
theorem first_left {gains gains' : List (List Int)} {n who : Nat} {rest : List Nat} {x : Int} (hlen : gains'.length = gains.length) (hp : (who :: rest).Perm (List.range gains.length)) (hx : (firstOf gains n (who :: rest))[who]? = some x)
    (hg : ∀ i, i < gains.length → ∀ k, k < n → gi gains' i k = if i = who ∨ x = (k : Int) then -1 else gi gains i k) :
    (firstOf gains' n (rest ++ [who]))[who]? = some (-1) ∧ ∀ i y, i ≠ who → (firstOf gains n (who :: rest))[i]? = some y → (firstOf gains' n (rest ++ [who]))[i]? = some y := by
  have hp' : (rest ++ [who]).Perm (List.range gains'.length) := by
    rw [hlen]; exact (List.perm_append_singleton who rest).trans hp
  have hF := first_is (n := n) hp
  have hF' := first_is (n := n) hp'
  have hge := firstOf_ge gains n (who :: rest)
  have hge' := firstOf_ge gains' n (rest ++ [who])
  have hL := firsts_left hF (g' := gi gains') fun i hi k hk => by
    rw [hg i (List.mem_range.1 (hp.mem_iff.1 hi)) k hk]
    have := slot_item hx (hge x (List.mem_of_getElem? hx)) k
    by_cases e : i = who
    · simp [e]
    · by_cases e2 : x = (k : Int)
      · rw [if_pos (.inr e2), if_pos (.inr (this.2 e2))]
      · rw [if_neg (fun h => h.elim e e2), if_neg (fun h => h.elim e fun h => e2 (this.1 h))]
  have hsame := hF'.same hL
  have hget : ∀ i, i < gains.length → ∃ y, (firstOf gains' n (rest ++ [who]))[i]? = some y ∧ -1 ≤ y := fun i hi => by
    have : i < (firstOf gains' n (rest ++ [who])).length := by rw [firstOf_length, hlen]; exact hi
    exact ⟨_, List.getElem?_eq_getElem this, hge' _ (List.getElem_mem _)⟩
  have hwl : who < gains.length := List.mem_range.1 (hp.mem_iff.1 List.mem_cons_self)
  constructor
  · obtain ⟨y, hy, _⟩ := hget who hwl
    have := hsame who (by simp)
    rw [upd_same, slot_of hy] at this
    split at this
    · rename_i e; rw [hy, e]
    · cases this
  · intro i y hne hy
    have hi : i < gains.length := by have := (List.getElem?_eq_some_iff.1 hy).1; rwa [firstOf_length] at this
    obtain ⟨z, hz, hz1⟩ := hget i hi
    have hm : i ∈ rest ++ [who] := hp'.mem_iff.2 (List.mem_range.2 (by omega))
    have := hsame i hm
    rw [upd_other hne] at this
    rw [hz, slot_ext hz hy hz1 (hge y (List.mem_of_getElem? hy)) this]
end Go.Proofs.Ytbnjeegicbffeaa
