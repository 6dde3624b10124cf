/- What the law PathsNone asks, in plain words. -/
import Derived.Test.YtbnjeegicbffeaaPp5
import Derived.Test.YtbnjeegicbffeaaNr2
namespace Go.Proofs.Ytbnjeegicbffeaa
open Go.RowKit

theorem rises_of {many : Int} : ∀ {l : List Int} {last : Int}, l.Pairwise (· < ·) → (∀ x, x ∈ l → last < x ∧ x < many) → risesFrom many last l = true
  | [], _, _, _ => rfl
  | n :: l, last, hp, h => by
    obtain ⟨h1, h2⟩ := List.pairwise_cons.1 hp
    obtain ⟨h3, h4⟩ := h n List.mem_cons_self
    simp only [risesFrom, Bool.and_eq_true, decide_eq_true_eq]
    exact ⟨⟨h3, h4⟩, rises_of h2 fun x hx => ⟨h1 x hx, (h x (List.mem_cons_of_mem _ hx)).2⟩⟩

/-- whom one reaches, in order, as numbers of no sign -/
def whoN (ws : List Nat) : List Nat := (sorted (nats ws)).map Int.toNat
theorem whoN_nats (ws : List Nat) : nats (whoN ws) = sorted (nats ws) := by
  unfold whoN nats
  rw [List.map_map]
  conv => rhs; rw [← List.map_id (sorted (List.map (fun k : Nat => (k : Int)) ws))]
  refine List.map_congr_left fun x hx => ?_
  obtain ⟨y, _, rfl⟩ := List.mem_map.1 ((sorted_perm _).mem_iff.1 hx)
  simp
theorem mem_whoN {ws : List Nat} {i : Nat} : i ∈ whoN ws ↔ i ∈ ws := by
  rw [← mem_nats, whoN_nats, (sorted_perm _).mem_iff, mem_nats]
theorem whoN_rises {ws : List Nat} (hn : ws.Nodup) {m : Nat} (h : ∀ x, x ∈ ws → x < m) : risesFrom m (-1) (nats (whoN ws)) = true := by
  rw [whoN_nats]
  refine rises_of ?_ fun x hx => ?_
  · have h1 := sorted_pair (nats ws)
    have h2 : (sorted (nats ws)).Nodup := (sorted_perm _).nodup_iff.2 (by
      unfold nats
      rw [List.nodup_iff_pairwise_ne, List.pairwise_map]
      exact hn.imp fun h e => h (by omega))
    exact (List.pairwise_and_iff.2 ⟨h1, h2⟩).imp fun ⟨h1, h2⟩ => by omega
  · obtain ⟨y, hy, rfl⟩ := List.mem_map.1 ((sorted_perm _).mem_iff.1 hx)
    have := h y hy
    omega

theorem near_reach {G : List (List Nat)} {m : List Int} {f : Nat} (hb : BOk G m f) : whatOf (nearOf G (whoN (reachOf G m f).ws)) 8 = whatOf (reachOf G m f).came 8 := by
  unfold whatOf
  refine List.filter_congr fun k _ => ?_
  rw [Bool.eq_iff_iff, decide_eq_true_eq, decide_eq_true_eq]
  unfold reachOf
  rw [Way.full_what hb.held hb.zero hb.h8 k]
  unfold nearOf
  constructor
  · intro h
    split at h
    · rename_i hh
      obtain ⟨i, hi, hk⟩ := List.any_eq_true.1 hh
      exact ⟨i, (Way.full_who hb.held hb.zero hb.h8 i).1 (mem_whoN.1 hi), by simpa using hk⟩
    · omega
  · rintro ⟨i, hi, hk⟩
    rw [if_pos (List.any_eq_true.2 ⟨i, mem_whoN.2 ((Way.full_who hb.held hb.zero hb.h8 i).2 hi), by simpa using hk⟩)]
    omega

/-- how many of what is reached nobody has -/
def freeOf (m : List Int) (W : List Int) : Nat := (W.filter fun k => !m.contains k).length

theorem held_mem {G : List (List Nat)} {m : List Int} {f k : Nat} (hb : BOk G m f) : (k : Int) ∈ m ↔ ∃ i, hasAt m i = some k := by
  constructor
  · intro h
    obtain ⟨i, hi⟩ := List.mem_iff_getElem?.1 h
    exact ⟨i, by rw [hasAt_of hi, if_neg (by omega)]; simp⟩
  · rintro ⟨i, hi⟩
    obtain ⟨x, hx, hne, e⟩ := hasAt_some hi
    have hbd := hb.bd x (List.mem_of_getElem? hx)
    have : x = (k : Int) := by omega
    rw [← this]
    exact List.mem_of_getElem? hx

theorem none_counts {G : List (List Nat)} {m : List Int} {f : Nat} (hb : BOk G m f) :
    (moreOf G m f).isSome = decide (0 < freeOf m (nats (whatOf (reachOf G m f).came 8))) ∧ (reachOf G m f).ws.length + freeOf m (nats (whatOf (reachOf G m f).came 8)) = (whatOf (reachOf G m f).came 8).length + 1 := by
  have hI : Way.Inv (nbOf G) (hasAt m) f (reachOf G m f) := Way.full_inv hb.held hb.zero
  have hwhat := Way.full_what hb.held hb.zero hb.h8
  have hwho := Way.full_who hb.held hb.zero hb.h8
  have hlt8 : ∀ w k, k ∈ nbOf G w → k < 8 := fun w k hk => by
    unfold nbOf at hk
    cases hG : G[w]? with
    | none => rw [hG] at hk; cases hk
    | some l => rw [hG] at hk; exact hb.lists l (List.mem_of_getElem? hG) k hk
  constructor
  · have h1 := Way.more_iff hb.held hb.zero hb.h8
    rw [show (moreOf G m f).isSome = (Way.more (nbOf G) (Way.holdTo (hasAt m) m.length) (hasAt m) f).isSome by unfold moreOf; simp]
    rw [Bool.eq_iff_iff, h1, decide_eq_true_eq]
    constructor
    · rintro ⟨w, k, hw, hk, h0⟩
      refine List.length_pos_of_mem (a := (k : Int)) (List.mem_filter.2 ⟨mem_nats.2 (List.mem_filter.2 ⟨List.mem_range.2 (hlt8 w k hk), ?_⟩), ?_⟩)
      · rw [decide_eq_true_eq]; exact (hwhat k).2 ⟨w, hw, hk⟩
      · simp only [Bool.not_eq_true', List.contains_eq_mem, decide_eq_false_iff_not]
        intro hm
        obtain ⟨i, hi⟩ := (held_mem hb).1 hm
        exact hb.held.free h0 i hi
    · intro h
      obtain ⟨x, hx⟩ := List.exists_mem_of_length_pos h
      obtain ⟨hx1, hx2⟩ := List.mem_filter.1 hx
      obtain ⟨k, hk, rfl⟩ := List.mem_map.1 hx1
      obtain ⟨_, hk2⟩ := List.mem_filter.1 hk
      rw [decide_eq_true_eq] at hk2
      obtain ⟨w, hw, hkw⟩ := (hwhat k).1 hk2
      refine ⟨w, k, hw, hkw, ?_⟩
      rcases Nat.eq_zero_or_pos (Way.holdTo (hasAt m) m.length k) with h0 | h0
      · exact h0
      · exfalso
        have : hasAt m (Way.holdTo (hasAt m) m.length k - 1) = some k := (hb.held.hold k _).1 (by omega)
        have hm := (held_mem hb).2 ⟨_, this⟩
        simp only [Bool.not_eq_true', List.contains_eq_mem, decide_eq_false_iff_not] at hx2
        exact hx2 hm
  · -- whom one reaches but for the first one has what is reached and had
    obtain ⟨tl, htl⟩ : ∃ tl, (reachOf G m f).ws = f :: tl := by
      have h := hI.head
      cases hw : (reachOf G m f).ws with
      | nil => rw [hw] at h; cases h
      | cons a tl => rw [hw] at h; cases h; exact ⟨tl, rfl⟩
    have hnd := hI.nodup
    rw [htl] at hnd
    obtain ⟨hnf, hnd⟩ := List.nodup_cons.1 hnd
    obtain ⟨Hs, hHs⟩ : ∃ Hs : List Nat, Hs = (whatOf (reachOf G m f).came 8).filter (fun k : Nat => m.contains (k : Int)) := ⟨_, rfl⟩
    have hmemH : ∀ k, k ∈ Hs ↔ (k < 8 ∧ 0 < (reachOf G m f).came k) ∧ (k : Int) ∈ m := fun k => by
      rw [hHs, List.mem_filter]
      unfold whatOf
      rw [List.mem_filter, List.mem_range]
      simp
    have hspl : freeOf m (nats (whatOf (reachOf G m f).came 8)) + Hs.length = (whatOf (reachOf G m f).came 8).length := by
      unfold freeOf nats
      rw [List.filter_map, List.length_map, hHs]
      have := Sale.filter_split (fun k : Nat => m.contains (k : Int)) (whatOf (reachOf G m f).came 8)
      simp only [Function.comp_def]
      omega
    have h1 : tl.length ≤ Hs.length := by
      obtain ⟨a1, a2, a3⟩ := Way.inj_len (R := tl) (C := Hs) (f := hasAt m) hnd (fun w hw => by
        obtain ⟨j, hj⟩ := List.mem_iff_getElem?.1 hw
        obtain ⟨k, i, j', e1, e2, _, _⟩ := hI.rest j w (by rw [htl]; simpa using hj)
        exact ⟨k, e1, (hmemH k).2 ⟨⟨hb.h8 w k e1, by omega⟩, (held_mem hb).2 ⟨w, e1⟩⟩⟩) fun w w' k _ _ e e' => hb.held.inj e e'
      rw [← a2]; exact Way.nodup_len a1 a3
    have hHn : Hs.Nodup := by rw [hHs]; unfold whatOf; exact (List.nodup_range.filter _).filter _
    have h2 : Hs.length ≤ tl.length := by
      obtain ⟨a1, a2, a3⟩ := Way.inj_len (R := Hs) (C := tl) (f := fun k => some (Way.holdTo (hasAt m) m.length k - 1)) hHn (fun k hk => by
        refine ⟨_, rfl, ?_⟩
        obtain ⟨⟨h8, hc⟩, hm⟩ := (hmemH k).1 hk
        obtain ⟨i, hi⟩ := (held_mem hb).1 hm
        have e := (hb.held.hold k i).2 hi
        rw [e, Nat.add_sub_cancel]
        have hin := hI.held k i hc hi
        rw [htl] at hin
        rcases List.mem_cons.1 hin with rfl | hin
        · rw [hb.zero] at hi; cases hi
        · exact hin) fun k k' w hk hk' e e' => by
          obtain ⟨_, hm⟩ := (hmemH k).1 hk
          obtain ⟨_, hm'⟩ := (hmemH k').1 hk'
          obtain ⟨i, hi⟩ := (held_mem hb).1 hm
          obtain ⟨i', hi'⟩ := (held_mem hb).1 hm'
          have e1 := (hb.held.hold k i).2 hi
          have e2 := (hb.held.hold k' i').2 hi'
          simp only [e1, e2, Nat.add_sub_cancel, Option.some.injEq] at e e'
          subst e
          subst e'
          rw [hi] at hi'
          cases hi'; rfl
      rw [← a2]; exact Way.nodup_len a1 a3
    rw [htl, List.length_cons]
    omega
end Go.Proofs.Ytbnjeegicbffeaa
