/- Plain mathematics: the way gone: one more has one; who finds none finds none later; what too few items for too many are. -/
import Derived.Test.YtbnjeegicbffeaaWay
namespace Way
open Sale (upd upd_same upd_other)

/-- from the item that nobody has back to whom it started from -/
def aug (came : Nat → Nat) : Nat → Nat → (Nat → Option Nat) → (Nat → Option Nat)
  | 0, _, h => h
  | f + 1, k, h => match h (came k - 1) with
    | none => upd h (came k - 1) (some k)
    | some k2 => aug came f k2 (upd h (came k - 1) (some k))

/-- what going a way from start to item k makes of who has what -/
structure Went (nb : Nat → List Nat) (start k : Nat) (ws : List Nat) (h h' : Nat → Option Nat) : Prop where
  same : ∀ x, x ∉ ws → h' x = h x
  dom : ∀ x, h' x = none ↔ h x = none ∧ x ≠ start
  ran : ∀ r, (∃ x, h' x = some r) ↔ r = k ∨ ∃ x, h x = some r
  inj : ∀ x y r, h' x = some r → h' y = some r → x = y
  fits : ∀ x r, h' x = some r → r ∈ nb x

theorem aug_went {nb : Nat → List Nat} {has : Nat → Option Nat} {start : Nat} {s : St} (hI : Inv nb has start s) (h0 : has start = none) :
    ∀ (f j k i : Nat) (H : Nat → Option Nat), j < f → s.came k = i + 1 → s.ws[j]? = some i → (∀ j' x, j' ≤ j → s.ws[j']? = some x → H x = has x) → (∀ x, H x ≠ some k) →
      (∀ x y r, H x = some r → H y = some r → x = y) → (∀ x r, H x = some r → r ∈ nb x) → Went nb start k s.ws H (aug s.came f k H)
  | 0, _, _, _, _, hf, _, _, _, _, _, _ => absurd hf (by omega)
  | f + 1, j, k, i, H, hf, hc, hj, hH, hfree, hinj, hfit => by
    have hi : s.came k - 1 = i := by omega
    have hHi : H i = has i := hH j i (Nat.le_refl _) hj
    have hki := (hI.came k i hc).1
    have him : i ∈ s.ws := List.mem_of_getElem? hj
    cases j with
    | zero =>
      rw [hI.head] at hj
      cases hj
      rw [h0] at hHi
      simp only [aug, hi, hHi]
      refine ⟨fun x hx => upd_other fun e => hx (e ▸ him), fun x => ?_, fun r => ⟨?_, ?_⟩, fun x y r hx hy => ?_, fun x r hx => ?_⟩
      · by_cases e : x = start
        · subst e; rw [upd_same]; simp
        · rw [upd_other e]; simp [e]
      · rintro ⟨x, hx⟩
        by_cases e : x = start
        · subst e; rw [upd_same] at hx; cases hx; exact .inl rfl
        · rw [upd_other e] at hx; exact .inr ⟨x, hx⟩
      · rintro (rfl | ⟨x, hx⟩)
        · exact ⟨start, upd_same _ _ _⟩
        · exact ⟨x, by rw [upd_other fun e => by rw [e, hHi] at hx; cases hx]; exact hx⟩
      · by_cases e : x = start <;> by_cases e' : y = start
        · rw [e, e']
        · subst e; rw [upd_same] at hx; rw [upd_other e'] at hy; cases hx; exact absurd hy (hfree y)
        · subst e'; rw [upd_same] at hy; rw [upd_other e] at hx; cases hy; exact absurd hx (hfree x)
        · rw [upd_other e] at hx; rw [upd_other e'] at hy; exact hinj x y r hx hy
      · by_cases e : x = start
        · subst e; rw [upd_same] at hx; cases hx; exact hki
        · rw [upd_other e] at hx; exact hfit x r hx
    | succ j =>
      obtain ⟨k2, i2, j', a1, a2, a3, a4⟩ := hI.rest j i hj
      have hHi2 : H i = some k2 := by rw [hHi, a1]
      simp only [aug, hi, hHi2]
      have hne : ∀ x, H x = some k → False := hfree
      have W := aug_went hI h0 f j' k2 i2 (upd H i (some k)) (by omega) a2 a4
        (fun j'' x hj'' hx => by
          have hxi : x ≠ i := by
            intro e
            subst e
            have := (List.getElem?_inj (List.getElem?_eq_some_iff.1 hx).1 hI.nodup).1 (hx.trans hj.symm)
            omega
          rw [upd_other hxi]; exact hH j'' x (by omega) hx)
        (fun x hx => by
          by_cases e : x = i
          · subst e; rw [upd_same] at hx; cases hx; exact hne _ hHi2
          · rw [upd_other e] at hx; exact e (hinj x i k2 hx hHi2))
        (fun x y r hx hy => by
          by_cases e : x = i <;> by_cases e' : y = i
          · rw [e, e']
          · subst e; rw [upd_same] at hx; rw [upd_other e'] at hy; cases hx; exact absurd hy (hfree y)
          · subst e'; rw [upd_same] at hy; rw [upd_other e] at hx; cases hy; exact absurd hx (hfree x)
          · rw [upd_other e] at hx; rw [upd_other e'] at hy; exact hinj x y r hx hy)
        (fun x r hx => by
          by_cases e : x = i
          · subst e; rw [upd_same] at hx; cases hx; exact hki
          · rw [upd_other e] at hx; exact hfit x r hx)
      refine ⟨fun x hx => ?_, fun x => ?_, fun r => ?_, W.inj, W.fits⟩
      · rw [W.same x hx]; exact upd_other fun e => hx (e ▸ him)
      · rw [W.dom x]
        by_cases e : x = i
        · subst e; rw [upd_same, hHi2]; simp
        · rw [upd_other e]
      · rw [W.ran r]
        constructor
        · rintro (rfl | ⟨x, hx⟩)
          · exact .inr ⟨i, hHi2⟩
          · by_cases e : x = i
            · subst e; rw [upd_same] at hx; cases hx; exact .inl rfl
            · rw [upd_other e] at hx; exact .inr ⟨x, hx⟩
        · rintro (rfl | ⟨x, hx⟩)
          · exact .inr ⟨i, upd_same _ _ _⟩
          · by_cases e : x = i
            · subst e; rw [hHi2] at hx; cases hx; exact .inl rfl
            · exact .inr ⟨x, by rw [upd_other e]; exact hx⟩

/-! ### More and Reach as functions -/
def more (nb : Nat → List Nat) (hold : Nat → Nat) (has : Nat → Option Nat) (start : Nat) : Option (Nat → Option Nat) :=
  match goes nb hold false 9 0 ⟨[start], fun _ => 0⟩ with
  | (_, none) => none
  | (s, some k) => some (aug s.came 9 k has)

theorem aug_found {nb : Nat → List Nat} {has : Nat → Option Nat} {hold : Nat → Nat} {start k : Nat} {s : St} (hH : Held nb has hold) (h0 : has start = none) (h8 : ∀ w k, has w = some k → k < 8)
    (h : goes nb hold false 9 0 ⟨[start], fun _ => 0⟩ = (s, some k)) : Went nb start k s.ws has (aug s.came 9 k has) ∧ Inv nb has start s ∧ hold k = 0 ∧ 0 < s.came k := by
  obtain ⟨hI, _⟩ := goes_inv hH h0 false 9 0 _ (Inv.start (nb := nb) (has := has) (start := start))
  rw [h] at hI
  obtain ⟨hk, hc, _⟩ := goes_some h
  obtain ⟨i, hi⟩ : ∃ i, s.came k = i + 1 := ⟨s.came k - 1, by omega⟩
  obtain ⟨j, hj⟩ := List.mem_iff_getElem?.1 (hI.came k i hi).2
  have hl : s.ws.length ≤ 8 + 1 := hI.length hH h8
  have hjl := (List.getElem?_eq_some_iff.1 hj).1
  have hjl' : j < s.ws.length := hjl
  exact ⟨aug_went hI h0 9 j k i has (by omega) hi hj (fun _ _ _ _ => rfl) (hH.free hk) (fun x y r h1 h2 => hH.inj h1 h2) hH.fits, hI, hk, hc⟩

theorem more_went {nb : Nat → List Nat} {has h' : Nat → Option Nat} {hold : Nat → Nat} {start : Nat} (hH : Held nb has hold) (h0 : has start = none) (h8 : ∀ w k, has w = some k → k < 8)
    (h : more nb hold has start = some h') : ∃ k s, Went nb start k s.ws has h' ∧ Inv nb has start s ∧ hold k = 0 ∧ 0 < s.came k := by
  unfold more at h
  rcases hg : goes nb hold false 9 0 ⟨[start], fun _ => 0⟩ with ⟨s, o⟩
  rw [hg] at h
  cases o with
  | none => cases h
  | some k => cases h; exact ⟨k, s, aug_found hH h0 h8 hg⟩

theorem more_none {nb : Nat → List Nat} {has : Nat → Option Nat} {hold : Nat → Nat} {start : Nat} (hH : Held nb has hold) (h0 : has start = none) (h8 : ∀ w k, has w = some k → k < 8)
    (h : more nb hold has start = none) : ∀ w k, Reach nb has start w → k ∈ nb w → 0 < hold k := by
  unfold more at h
  rcases hg : goes nb hold false 9 0 ⟨[start], fun _ => 0⟩ with ⟨s, o⟩
  rw [hg] at h
  cases o with
  | some k => cases h
  | none =>
    obtain ⟨hI, _⟩ := goes_inv hH h0 false 9 0 _ (Inv.start (nb := nb) (has := has) (start := start))
    rw [hg] at hI
    obtain ⟨r1, r2⟩ := goes_none hg (by have := hI.length hH h8; simp at this; omega) (fun j w hj _ => absurd hj (by omega))
    intro w k hw hk
    exact r2 rfl (fun k hk => absurd hk (by simp)) k (r1 w (hI.all r1 hw) k hk)

/-- there is a way just if an item that nobody has is near to someone who is come to -/
theorem more_iff {nb : Nat → List Nat} {has : Nat → Option Nat} {hold : Nat → Nat} {start : Nat} (hH : Held nb has hold) (h0 : has start = none) (h8 : ∀ w k, has w = some k → k < 8) :
    (more nb hold has start).isSome = true ↔ ∃ w k, Reach nb has start w ∧ k ∈ nb w ∧ hold k = 0 := by
  constructor
  · intro h
    obtain ⟨h', hm⟩ := Option.isSome_iff_exists.1 h
    obtain ⟨k, s, _, hI, hk, hc⟩ := more_went hH h0 h8 hm
    obtain ⟨i, hi⟩ : ∃ i, s.came k = i + 1 := ⟨s.came k - 1, by omega⟩
    obtain ⟨a1, a2⟩ := hI.came k i hi
    exact ⟨i, k, hI.reached a2, a1, hk⟩
  · rintro ⟨w, k, hw, hk, hk0⟩
    cases hm : more nb hold has start with
    | some h' => rfl
    | none => have := more_none hH h0 h8 hm w k hw hk; omega

/-- all that is come to -/
def full (nb : Nat → List Nat) (hold : Nat → Nat) (start : Nat) : St := (goes nb hold true 9 0 ⟨[start], fun _ => 0⟩).1

theorem full_none {nb : Nat → List Nat} {hold : Nat → Nat} {start : Nat} : goes nb hold true 9 0 ⟨[start], fun _ => 0⟩ = (full nb hold start, none) := by
  unfold full
  rcases hg : goes nb hold true 9 0 ⟨[start], fun _ => 0⟩ with ⟨s, o⟩
  cases o with
  | none => rfl
  | some k => have := (goes_some hg).2.2; cases this

theorem full_inv {nb : Nat → List Nat} {has : Nat → Option Nat} {hold : Nat → Nat} {start : Nat} (hH : Held nb has hold) (h0 : has start = none) : Inv nb has start (full nb hold start) :=
  (goes_inv hH h0 true 9 0 _ (Inv.start (nb := nb) (has := has) (start := start))).1

theorem full_who {nb : Nat → List Nat} {has : Nat → Option Nat} {hold : Nat → Nat} {start : Nat} (hH : Held nb has hold) (h0 : has start = none) (h8 : ∀ w k, has w = some k → k < 8) (w : Nat) :
    w ∈ (full nb hold start).ws ↔ Reach nb has start w := by
  have hI := full_inv hH h0
  obtain ⟨r1, _⟩ := goes_none (full_none (nb := nb) (hold := hold) (start := start)) (by have := hI.length hH h8; simp at this; omega) (fun j w hj _ => absurd hj (by omega))
  exact ⟨hI.reached, hI.all r1⟩

theorem full_what {nb : Nat → List Nat} {has : Nat → Option Nat} {hold : Nat → Nat} {start : Nat} (hH : Held nb has hold) (h0 : has start = none) (h8 : ∀ w k, has w = some k → k < 8) (k : Nat) :
    0 < (full nb hold start).came k ↔ ∃ w, Reach nb has start w ∧ k ∈ nb w := by
  have hI := full_inv hH h0
  obtain ⟨r1, _⟩ := goes_none (full_none (nb := nb) (hold := hold) (start := start)) (by have := hI.length hH h8; simp at this; omega) (fun j w hj _ => absurd hj (by omega))
  constructor
  · intro h
    obtain ⟨i, hi⟩ : ∃ i, (full nb hold start).came k = i + 1 := ⟨(full nb hold start).came k - 1, by omega⟩
    obtain ⟨a1, a2⟩ := hI.came k i hi
    exact ⟨i, hI.reached a2, a1⟩
  · rintro ⟨w, hw, hk⟩
    exact r1 w (hI.all r1 hw) k hk

/-- whom one comes to hold items that are come to, but for the one from whom it goes -/
theorem reach_holds {nb : Nat → List Nat} {has : Nat → Option Nat} {start w : Nat} (h : Reach nb has start w) : w = start ∨ ∃ k w', has w = some k ∧ Reach nb has start w' ∧ k ∈ nb w' := by
  cases h with
  | base => exact .inl rfl
  | more hw hk he => exact .inr ⟨_, _, he, hw, hk⟩

/-! ### what is not come to makes no difference -/
theorem goes_congr {nb nb' : Nat → List Nat} {hold : Nat → Nat} {all : Bool} {P : Nat → Prop} (hP : ∀ w, P w → nb' w = nb w) : ∀ (f n : Nat) (s : St), (∀ w, w ∈ (goes nb hold all f n s).1.ws → P w) → (∀ s' : St, ∀ ks w, Grows s' (scan hold all w ks s').1) → goes nb' hold all f n s = goes nb hold all f n s
  | 0, _, _, _, _ => rfl
  | f + 1, n, s, h, hg => by
    cases hw : s.ws[n]? with
    | none => rw [goes, goes, hw]
    | some w =>
      rw [goes_at hw] at h
      rw [goes_at hw, goes_at hw]
      have g1 := hg s (nb w) w
      have hmem : w ∈ s.ws := List.mem_of_getElem? hw
      rcases hst : scan hold all w (nb w) s with ⟨s1, o⟩
      rw [hst] at h g1
      cases o with
      | some r =>
        have hPw := h w (g1.mem hmem)
        rw [hP w hPw, hst]
      | none =>
        simp only at h
        have g2 : ∀ (f n : Nat) (s : St), Grows s (goes nb hold all f n s).1 := by
          intro f
          induction f with
          | zero => exact fun n s => Grows.refl s
          | succ f ih =>
            intro n s
            cases hw2 : s.ws[n]? with
            | none => rw [goes, hw2]; exact Grows.refl s
            | some w2 =>
              rw [goes_at hw2]
              have g3 := hg s (nb w2) w2
              rcases hst2 : scan hold all w2 (nb w2) s with ⟨s2, o2⟩
              rw [hst2] at g3
              cases o2 with
              | some r => exact g3
              | none => exact g3.trans (ih (n + 1) s2)
        have hPw := h w ((g2 f (n + 1) s1).mem (g1.mem hmem))
        rw [hP w hPw, hst]
        exact goes_congr hP f (n + 1) s1 h hg

theorem scan_grows {hold : Nat → Nat} {all : Bool} {who : Nat} : ∀ (ks : List Nat) (s : St), Grows s (scan hold all who ks s).1
  | [], s => Grows.refl s
  | k :: ks, s => by
    have g1 := Grows.step hold all who s k
    simp only [scan]
    rcases hst : step hold all who s k with ⟨s', o⟩
    rw [hst] at g1
    cases o with
    | some r => exact g1
    | none => exact g1.trans (scan_grows ks s')

theorem more_congr {nb nb' : Nat → List Nat} {has : Nat → Option Nat} {hold : Nat → Nat} {start : Nat} (hH : Held nb has hold) (h0 : has start = none) (h : ∀ w, Reach nb has start w → nb' w = nb w) : more nb' hold has start = more nb hold has start := by
  unfold more
  rw [goes_congr (P := Reach nb has start) h 9 0 _ (fun w hw => (goes_inv hH h0 false 9 0 _ Inv.start).1.reached hw) (fun s ks w => scan_grows ks s)]

/-! ### one that may have an item that nobody has takes the first such one -/
theorem scan_first {hold : Nat → Nat} {who : Nat} : ∀ (ks : List Nat) (s : St) (k : Nat), (∀ x, 0 < s.came x → 0 < hold x) → ks.find? (fun x => hold x == 0) = some k → ∃ s', scan hold false who ks s = (s', some k) ∧ s'.came k = who + 1
  | x :: ks, s, k, hs, h => by
    rw [List.find?_cons] at h
    by_cases hx : hold x = 0
    · rw [show (hold x == 0) = true by simp [hx]] at h
      obtain rfl : x = k := Option.some.inj h
      have h1 : ¬ 0 < s.came x := fun h => by have := hs x h; omega
      simp only [scan, step, if_neg h1, if_neg (show ¬ 0 < hold x by omega)]
      exact ⟨_, rfl, mark_same _ _ _⟩
    · rw [show (hold x == 0) = false by simp [hx]] at h
      have hpos : 0 < hold x := by omega
      simp only [scan, step]
      by_cases h1 : 0 < s.came x
      · rw [if_pos h1]; exact scan_first ks s k hs h
      · rw [if_neg h1, if_pos hpos]
        refine scan_first ks _ k (fun y hy => ?_) h
        by_cases e : y = x
        · subst e; exact hpos
        · have hy' : 0 < mark s.came x (who + 1) y := hy
          rw [mark_other e] at hy'; exact hs y hy'

theorem more_first {nb : Nat → List Nat} {has : Nat → Option Nat} {hold : Nat → Nat} {start k : Nat} (h0 : has start = none) (h : (nb start).find? (fun x => hold x == 0) = some k) : more nb hold has start = some (upd has start (some k)) := by
  obtain ⟨s, hs, hc⟩ := scan_first (hold := hold) (who := start) (nb start) ⟨[start], fun _ => 0⟩ k (fun x hx => absurd hx (by simp)) h
  have hg : goes nb hold false 9 0 ⟨[start], fun _ => 0⟩ = (s, some k) := by
    rw [goes_at (w := start) rfl, hs]
  unfold more
  rw [hg]
  simp only [aug, hc, Nat.add_sub_cancel, h0]

/-! ### too few items for too many -/
/-- R: bidders; C: all that they may have, one less than they are; all of them but one have one of these -/
structure Few (nb : Nat → List Nat) (start : Nat) (R C : List Nat) : Prop where
  nodup : R.Nodup
  start : start ∈ R
  near : ∀ w, w ∈ R → ∀ k, k ∈ nb w → k ∈ C
  few : C.length + 1 ≤ R.length

/-- .. at some time, who has what -/
structure Stuck (nb : Nat → List Nat) (start : Nat) (R : List Nat) (has : Nat → Option Nat) : Prop where
  zero : has start = none
  full : ∀ w, w ∈ R → w ≠ start → has w ≠ none
  inj : ∀ w w' k, has w = some k → has w' = some k → w = w'
  fits : ∀ w k, has w = some k → k ∈ nb w

/-- then all that is near to these is had by them -/
theorem Stuck.held {nb : Nat → List Nat} {start : Nat} {R C : List Nat} {has : Nat → Option Nat} (hs : Stuck nb start R has) (hf : Few nb start R C) {k : Nat} (hk : k ∈ C) : ∃ w, w ∈ R ∧ w ≠ start ∧ has w = some k := by
  have hR : ∀ w, w ∈ R.erase start → ∃ k, has w = some k ∧ k ∈ C := by
    intro w hw
    have hwR := List.mem_of_mem_erase hw
    have hne : w ≠ start := fun e => by rw [e] at hw; exact hf.nodup.not_mem_erase hw
    obtain ⟨k, hk⟩ := Option.ne_none_iff_exists'.1 (hs.full w hwR hne)
    exact ⟨k, hk, hf.near w hwR k (hs.fits w k hk)⟩
  obtain ⟨h1, h2, h3⟩ := inj_len (hf.nodup.erase start) hR fun w w' k _ _ e1 e2 => hs.inj w w' k e1 e2
  have h4 : (R.erase start).length + 1 = R.length := by
    rw [List.length_erase_of_mem hf.start]
    have := List.length_pos_of_mem hf.start
    omega
  have hm := nodup_all h1 h3 (by have := hf.few; omega) k hk
  obtain ⟨w, hw, e⟩ := List.mem_filterMap.1 hm
  exact ⟨w, List.mem_of_mem_erase hw, fun e' => by rw [e'] at hw; exact hf.nodup.not_mem_erase hw, e⟩

theorem Stuck.reach {nb : Nat → List Nat} {start w : Nat} {R C : List Nat} {has : Nat → Option Nat} (hs : Stuck nb start R has) (hf : Few nb start R C) (hw : Reach nb has start w) : w ∈ R := by
  induction hw with
  | base => exact hf.start
  | more _ hk he ih =>
    obtain ⟨w'', h1, _, h3⟩ := hs.held hf (hf.near _ ih _ hk)
    exact hs.inj _ _ _ h3 he ▸ h1

theorem Stuck.more {nb : Nat → List Nat} {start : Nat} {R C : List Nat} {has : Nat → Option Nat} {hold : Nat → Nat} (hs : Stuck nb start R has) (hf : Few nb start R C) (hH : Held nb has hold) (h8 : ∀ w k, has w = some k → k < 8) : more nb hold has start = none := by
  cases hm : Way.more nb hold has start with
  | none => rfl
  | some h' =>
    obtain ⟨w, k, hw, hk, hk0⟩ := (more_iff hH hs.zero h8).1 (by rw [hm]; rfl)
    obtain ⟨w', _, _, e⟩ := hs.held hf (hf.near w (hs.reach hf hw) k hk)
    exact absurd e (hH.free hk0 w')

/-- others may go their ways -/
theorem Stuck.went {nb : Nat → List Nat} {start other k : Nat} {R ws : List Nat} {has h' : Nat → Option Nat} (hs : Stuck nb start R has) (hne : other ≠ start) (hw : Went nb other k ws has h') : Stuck nb start R h' := by
  refine ⟨(hw.dom start).2 ⟨hs.zero, Ne.symm hne⟩, fun w hwR hws e => ?_, hw.inj, hw.fits⟩
  exact hs.full w hwR hws ((hw.dom w).1 e).1

/-- who finds none is such a one -/
theorem stuck_of_none {nb : Nat → List Nat} {has : Nat → Option Nat} {hold : Nat → Nat} {start : Nat} (hH : Held nb has hold) (h0 : has start = none) (h8 : ∀ w k, has w = some k → k < 8)
    (h : more nb hold has start = none) : ∃ R C, Few nb start R C ∧ Stuck nb start R has ∧ C.Nodup ∧ (∀ k, k ∈ C → ∃ w, has w = some k) ∧ (∀ w, w ∈ R → Reach nb has start w) := by
  have hI := full_inv hH h0
  have hwho := full_who hH h0 h8
  have hall := more_none hH h0 h8 h
  obtain ⟨a, l, hws⟩ : ∃ a l, (full nb hold start).ws = a :: l := by
    rcases hws : (full nb hold start).ws with _ | ⟨a, l⟩
    · have := hI.head; rw [hws] at this; cases this
    · exact ⟨a, l, rfl⟩
  obtain rfl : a = start := by have := hI.head; rw [hws] at this; simpa using this
  have hn := hI.nodup
  rw [hws] at hn
  obtain ⟨hal, hnl⟩ := List.nodup_cons.1 hn
  have hl : ∀ w, w ∈ l → ∃ k, has w = some k ∧ k ∈ List.range 8 := by
    intro w hw
    rcases reach_holds ((hwho w).1 (by rw [hws]; exact List.mem_cons_of_mem _ hw)) with e | ⟨k, w', e, _, _⟩
    · exact absurd (e ▸ hw) hal
    · exact ⟨k, e, List.mem_range.2 (h8 w k e)⟩
  obtain ⟨h1, h2, _⟩ := inj_len hnl hl fun w w' k _ _ e1 e2 => hH.inj e1 e2
  refine ⟨a :: l, l.filterMap has, ⟨hn, List.mem_cons_self, fun w hw k hk => ?_, by rw [h2]; simp⟩, ⟨h0, fun w hw hne => ?_, fun w w' k e1 e2 => hH.inj e1 e2, hH.fits⟩, h1, fun k hk => ?_, fun w hw => (hwho w).1 (by rw [hws]; exact hw)⟩
  · have hr := (hwho w).1 (by rw [hws]; exact hw)
    have hp := hall w k hr hk
    obtain ⟨i, hi⟩ : ∃ i, hold k = i + 1 := ⟨hold k - 1, by omega⟩
    have he := (hH.hold k i).1 hi
    have hri := Reach.more hr hk he
    have him := (hwho i).2 hri
    rw [hws] at him
    rcases List.mem_cons.1 him with e | him
    · rw [e, h0] at he; cases he
    · exact List.mem_filterMap.2 ⟨i, him, he⟩
  · rcases List.mem_cons.1 hw with e | hw
    · exact absurd e hne
    · obtain ⟨k, e, _⟩ := hl w hw
      rw [e]; simp
  · obtain ⟨w, _, e⟩ := List.mem_filterMap.1 hk
    exact ⟨w, e⟩

end Way
