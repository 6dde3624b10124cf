/- The way gone, as the laws on paths ask it. -/
import Derived.Test.YtbnjeegicbffeaaPl1
namespace Go.Proofs.Ytbnjeegicbffeaa
open Go.RowKit

theorem BOk.h8 {G : List (List Nat)} {has : List Int} {f : Nat} (h : BOk G has f) : ∀ w k, hasAt has w = some k → k < 8 := fun x k e => by
  have hk := h.mat.fits x k e
  unfold nbOf at hk
  cases hGx : G[x]? with
  | none => rw [hGx] at hk; cases hk
  | some l => rw [hGx] at hk; exact h.lists l (List.mem_of_getElem? hGx) k hk
theorem BOk.held {G : List (List Nat)} {has : List Int} {f : Nat} (h : BOk G has f) : Way.Held (nbOf G) (hasAt has) (Way.holdTo (hasAt has) has.length) := h.mat.held (Nat.le_refl _)

/-- what More hands back: a way was gone -/
structure Moved (G : List (List Nat)) (has : List Int) (f : Nat) (l : List Int) (k : Nat) (ws : List Nat) : Prop where
  len : l.length = has.length
  ge : ∀ x, x ∈ l → -1 ≤ x
  went : Way.Went (nbOf G) f k ws (hasAt has) (hasAt l)
  reach : ∀ w, w ∈ ws → Way.Reach (nbOf G) (hasAt has) f w

theorem moved {G : List (List Nat)} {has l : List Int} {f : Nat} (hb : BOk G has f) (hm : moreOf G has f = some l) : ∃ k ws, Moved G has f l k ws := by
  unfold moreOf at hm
  cases hmm : Way.more (nbOf G) (Way.holdTo (hasAt has) has.length) (hasAt has) f with
  | none => rw [hmm] at hm; cases hm
  | some h' =>
    rw [hmm] at hm
    obtain rfl : listOf has.length h' = l := by simpa using hm
    obtain ⟨k, s, hw, hI, _, _⟩ := Way.more_went hb.held hb.zero hb.h8 hmm
    have hlt : ∀ i r, h' i = some r → i < has.length := fun i r e => by
      by_cases ei : i = f
      · rw [ei]; exact hb.lt
      · have : hasAt has i ≠ none := fun e0 => by rw [(hw.dom i).2 ⟨e0, ei⟩] at e; cases e
        obtain ⟨r', hr'⟩ := Option.ne_none_iff_exists'.1 this
        exact hb.mat.lt i r' hr'
    refine ⟨k, s.ws, listOf_length _ _, fun x hx => ?_, by rw [hasAt_listOf hlt]; exact hw, fun w hw => hI.reached hw⟩
    obtain ⟨i, _, rfl⟩ := List.mem_map.1 hx
    exact itm_ge _

theorem hasAt_none {l : List Int} {i : Nat} {x : Int} (hx : l[i]? = some x) : hasAt l i = none ↔ x = -1 := by
  rw [hasAt_of hx]
  by_cases e : x = -1 <;> simp [e]

theorem manyOf_eq {l : List Int} : manyOf l = (((List.range l.length).filter fun i => (hasAt l i).isSome).length : Int) := by
  have key : ∀ n, n ≤ l.length → manyOf (l.take n) = (((List.range n).filter fun i => (hasAt l i).isSome).length : Int) := by
    intro n
    induction n with
    | zero => intro _; rfl
    | succ n ih =>
      intro hn
      have hx : l[n]? = some (l[n]'(by omega)) := by simp
      rw [manyOf_snoc hx, ih (by omega), List.range_succ, List.filter_append]
      by_cases e : l[n]'(by omega) = -1
      · have : hasAt l n = none := (hasAt_none hx).2 e
        rw [if_pos e]; simp [this]
      · have : hasAt l n ≠ none := fun h => e ((hasAt_none hx).1 h)
        obtain ⟨r, hr⟩ := Option.ne_none_iff_exists'.1 this
        rw [if_neg e]; simp [hr]
  have := key l.length (Nat.le_refl _)
  rwa [List.take_length] at this

theorem Moved.many {G : List (List Nat)} {has l : List Int} {f k : Nat} {ws : List Nat} (h : Moved G has f l k ws) (hb : BOk G has f) : manyOf l = manyOf has + 1 := by
  rw [manyOf_eq, manyOf_eq, h.len]
  have e : ((List.range has.length).filter fun i => (hasAt l i).isSome).length = ((List.range has.length).filter fun i => (hasAt has i).isSome).length + 1 := by
    have hn2 : (f :: (List.range has.length).filter fun i => (hasAt has i).isSome).Nodup :=
      List.nodup_cons.2 ⟨fun hm => (by have := (List.mem_filter.1 hm).2; rw [hb.zero] at this; cases this), List.nodup_range.filter _⟩
    apply Nat.le_antisymm
    · refine Way.nodup_len (List.nodup_range.filter _) (m := f :: (List.range has.length).filter fun i => (hasAt has i).isSome) fun x hx => ?_
      obtain ⟨h1, h2⟩ := List.mem_filter.1 hx
      by_cases ex : x = f
      · rw [ex]; exact List.mem_cons_self
      · refine List.mem_cons_of_mem _ (List.mem_filter.2 ⟨h1, ?_⟩)
        cases hh : hasAt has x with
        | some r => rfl
        | none => rw [(h.went.dom x).2 ⟨hh, ex⟩] at h2; cases h2
    · refine Way.nodup_len hn2 (m := (List.range has.length).filter fun i => (hasAt l i).isSome) fun x hx => ?_
      have hd : hasAt l x ≠ none := by
        intro e
        obtain ⟨e1, e2⟩ := (h.went.dom x).1 e
        rcases List.mem_cons.1 hx with rfl | hx
        · exact e2 rfl
        · have := (List.mem_filter.1 hx).2; rw [e1] at this; cases this
      obtain ⟨r, hr⟩ := Option.ne_none_iff_exists'.1 hd
      refine List.mem_filter.2 ⟨?_, by rw [hr]; rfl⟩
      rcases List.mem_cons.1 hx with rfl | hx
      · exact List.mem_range.2 hb.lt
      · exact (List.mem_filter.1 hx).1
  omega

/-- a list that is a matching fits -/
theorem fits_of {G : List (List Nat)} {items : Int} {l : List Int} (hg : gcheck (G.map nats) items = true) (hl : l.length = G.length) (hge : ∀ x, x ∈ l → -1 ≤ x)
    (hinj : ∀ x y r, hasAt l x = some r → hasAt l y = some r → x = y) (hfit : ∀ x r, hasAt l x = some r → r ∈ nbOf G x) : fitsB (G.map nats) items l = true := by
  simp only [fitsB, Bool.and_eq_true, decide_eq_true_eq]
  refine ⟨⟨hg, by simpa using hl⟩, ?_⟩
  unfold fitTo
  rw [List.all_eq_true]
  intro i hi
  have hil := List.mem_range.1 hi
  have hx : l[i]? = some (l[i]'(by omega)) := by simp
  rw [hx, Option.getD_some]
  obtain ⟨x, hxe⟩ : ∃ x, x = l[i]'(by omega) := ⟨_, rfl⟩
  rw [← hxe] at hx ⊢
  have hx1 := hge x (List.mem_of_getElem? hx)
  by_cases hne : x = -1
  · simp [okFit, hne]
  · obtain ⟨r, rfl⟩ := Int.eq_ofNat_of_zero_le (show 0 ≤ x by omega)
    have hr : hasAt l i = some r := by rw [hasAt_of hx, if_neg hne, Int.toNat_natCast]
    have h1 := hfit i r hr
    have h2 : (r : Int) ∉ l.take i := by
      intro hm
      obtain ⟨j, hj⟩ := List.mem_iff_getElem?.1 hm
      have hji : j < i := by have := (List.getElem?_eq_some_iff.1 hj).1; simp at this; omega
      rw [List.getElem?_take_of_lt hji] at hj
      have hr2 : hasAt l j = some r := by rw [hasAt_of hj, if_neg hne, Int.toNat_natCast]
      have := hinj i j r hr hr2
      omega
    have h3 : (r : Int) ∈ ((G.map nats)[i]?.getD []) := by rw [nbOf_map]; exact mem_nats.2 h1
    simp only [okFit, List.contains_eq_mem, h3, h2, decide_true, decide_false, Bool.not_false, Bool.and_self, Bool.or_true]

theorem bOk_gcheck {g : List (List Int)} {items start : Int} {has : List Int} (h : bOk g items has start = true) : gcheck g items = true := by
  simp only [bOk, Bool.and_eq_true, decide_eq_true_eq] at h
  exact (fitsB_parts h.1.1.1).1

theorem Moved.fits {G : List (List Nat)} {items : Int} {has l : List Int} {f k : Nat} {ws : List Nat} (h : Moved G has f l k ws) (hb : BOk G has f) (hg : gcheck (G.map nats) items = true) : fitsB (G.map nats) items l = true :=
  fits_of hg (by rw [h.len, hb.len]) h.ge h.went.inj h.went.fits

/-- who had one has one; what was had is had -/
theorem Moved.keeps {G : List (List Nat)} {has l : List Int} {f k i : Nat} {ws : List Nat} (h : Moved G has f l k ws) {x y : Int} (hx : has[i]? = some x) (hy : l[i]? = some y) (hxb : -1 ≤ x) (hne : x ≠ -1) : y ≠ -1 ∧ x ∈ l := by
  obtain ⟨r, rfl⟩ := Int.eq_ofNat_of_zero_le (show 0 ≤ x by omega)
  have hr : hasAt has i = some r := by rw [hasAt_of hx, if_neg hne, Int.toNat_natCast]
  constructor
  · intro e
    have := (h.went.dom i).1 ((hasAt_none hy).2 e)
    rw [hr] at this; cases this.1
  · obtain ⟨j, hj⟩ := (h.went.ran r).2 (.inr ⟨i, hr⟩)
    obtain ⟨z, hz, hz1, hz2⟩ := hasAt_some hj
    have := h.ge z (List.mem_of_getElem? hz)
    exact (by omega : z = (r : Int)) ▸ List.mem_of_getElem? hz

theorem Moved.start {G : List (List Nat)} {has l : List Int} {f k : Nat} {ws : List Nat} (h : Moved G has f l k ws) {y : Int} (hy : l[f]? = some y) : y ≠ -1 := fun e =>
  ((h.went.dom f).1 ((hasAt_none hy).2 e)).2 rfl
end Go.Proofs.Ytbnjeegicbffeaa
