/- Walks: forests.Of. Forests in plain words: one round of the search: what is found, and what is laid down of it. Walks: forests.Of: one pass behind the label. -/
import Derived.Test.YtbnjeegicbffeaaGreatG33
import Derived.ScopeJumps
import Derived.WalkMore
import Derived.Carry
import Derived.RangeFuncOwn
/- Walks: forests.Of. -/
namespace Go.Proofs.YtbnjeegicbffeaaGreat
open Go.RowKit Sale Tree

/-- a scope with a jump back to one label: what is shown behind the label serves where the run first comes to it, too -/
theorem wp_scope_once {P : Program} {a : Act} {w : World} {Q : Exit → Act → World → Prop} {c rest : Code} (l : Nat) (J : Act → World → Prop) (μ : Act → World → Nat) (hf : findLabel c l = some (Code.skip.seq rest))
    (first : (∀ a w, J a w → rest.wp P (Exit.jump l J Q) a w) → c.wp P (Exit.jump l J Q) a w)
    (pass : ∀ a w, J a w → rest.wp P (Exit.jump l (fun a' w' => J a' w' ∧ μ a' w' < μ a w) Q) a w) : (Code.scope c).wp P Q a w :=
  wp_scope_jumps l J μ hf (first fun a w h => Code.wp_mono (fun e a w he => by
    cases e with
    | goto l' => exact ⟨he.1, he.2.1⟩
    | normal => exact he
    | exit id => exact he
    | ret => exact he
    | panic ch => exact he
    | outgrown => exact he) (pass a w h)) (fun a w h => wp_seq (wp_skip (pass a w h)))
theorem VRow.far {w : World} {B : Nat} {T : TypeId} {vals : List Value} (h : VRow w B T vals) {a : Addr} (ha : B ≠ a.block) (v : Value) : VRow (w.setCell a v) B T vals := by
  unfold VRow; rw [heap_setCell_other w a B v ha]; exact h
theorem VRow.grownBy {w w' : World} {B : Nat} {T : TypeId} {vals : List Value} {row : Option Nat} (h : VRow w B T vals) (hg : w.grownBy w' row) (hne : row ≠ some B) : VRow w' B T vals := by
  unfold VRow; rw [hg.block B h.lt (fun e => hne e.symm)]; exact h
/-- a cell of another block is written -/
theorem VAt.far {w : World} {B1 B2 B3 : Nat} {ra ba oa ha pa : Option Addr} {rn rc bn bc on oc hn hc pn pc : Nat} {m : Mkt} {o : Outc} {wr : World} (h : VAt w B1 B2 B3 ra ba oa ha pa rn rc bn bc on oc hn hc pn pc m o wr) (hm : MktAt w ra ba oa rn rc bn bc on oc m) (ho : OutAt w ha pa hn hc pn pc o)
    {a : Addr} (hA : w.heap.size ≤ a.block) (h1 : B1 ≠ a.block) (h2 : B2 ≠ a.block) (h3 : B3 ≠ a.block) (v : Value) : VAt w B1 B2 B3 ra ba oa ha pa rn rc bn bc on oc hn hc pn pc m o (wr.setCell a v) := by
  have hb := h.below.setCell hA v
  exact ⟨h.v1.far h1 v, h.v2.far h2 v, h.v3.far h3 v, hm.below hb (Nat.le_refl _), ho.below hb (Nat.le_refl _), hb⟩
theorem VAt.grown {w : World} {B1 B2 B3 : Nat} {ra ba oa ha pa : Option Addr} {rn rc bn bc on oc hn hc pn pc : Nat} {m : Mkt} {o : Outc} {wr wr' : World} (h : VAt w B1 B2 B3 ra ba oa ha pa rn rc bn bc on oc hn hc pn pc m o wr) (hm : MktAt w ra ba oa rn rc bn bc on oc m) (ho : OutAt w ha pa hn hc pn pc o)
    {b : Nat} (hg : wr.grownBy wr' (some b)) (hb : w.heap.size ≤ b) (h1 : b ≠ B1) (h2 : b ≠ B2) (h3 : b ≠ B3) : VAt w B1 B2 B3 ra ba oa ha pa rn rc bn bc on oc hn hc pn pc m o wr' := by
  have hbl := h.below.grown hg h.below.size (fun k hk => by cases hk; exact hb)
  exact ⟨h.v1.grownBy hg (by simpa using h1), h.v2.grownBy hg (by simpa using h2), h.v3.grownBy hg (by simpa using h3), hm.below hbl (Nat.le_refl _), ho.below hbl (Nat.le_refl _), hbl⟩

/-- the state of the search behind r rounds -/
structure Hunt (w : World) (B1 B2 B3 Bo Bm : Nat) (ra ba oa ha pa : Option Addr) (rn rc bn bc on oc hn hc pn pc : Nat) (m : Mkt) (o : Outc) (s : Sta) (lf : Int) (wr : World) : Prop where
  view : VAt w B1 B2 B3 ra ba oa ha pa rn rc bn bc on oc hn hc pn pc m o wr
  out : WRow wr Bo (outL pn s)
  ranks : ∃ n cnt, n + leftN pn s = pn + 1 ∧ MapI wr Bm n (rkF (clipS pn s)) cnt
  left : lf = (leftN pn s : Int)
  new : w.heap.size ≤ Bo ∧ w.heap.size ≤ Bm ∧ Bo ≠ B1 ∧ Bo ≠ B2 ∧ Bo ≠ B3 ∧ Bm ≠ Bo ∧ Bm ≠ B1 ∧ Bm ≠ B2 ∧ Bm ≠ B3

/-- a frame of 128 slots -/
def fr128 (u : Nat → Value) : Array Value := #[u 0, u 1, u 2, u 3, u 4, u 5, u 6, u 7, u 8, u 9, u 10, u 11, u 12, u 13, u 14, u 15, u 16, u 17, u 18, u 19, u 20, u 21, u 22, u 23, u 24, u 25, u 26, u 27, u 28, u 29, u 30, u 31, u 32, u 33, u 34, u 35, u 36, u 37, u 38, u 39, u 40, u 41, u 42, u 43, u 44, u 45, u 46, u 47, u 48, u 49, u 50, u 51, u 52, u 53, u 54, u 55, u 56, u 57, u 58, u 59, u 60, u 61, u 62, u 63, u 64, u 65, u 66, u 67, u 68, u 69, u 70, u 71, u 72, u 73, u 74, u 75, u 76, u 77, u 78, u 79, u 80, u 81, u 82, u 83, u 84, u 85, u 86, u 87, u 88, u 89, u 90, u 91, u 92, u 93, u 94, u 95, u 96, u 97, u 98, u 99, u 100, u 101, u 102, u 103, u 104, u 105, u 106, u 107, u 108, u 109, u 110, u 111, u 112, u 113, u 114, u 115, u 116, u 117, u 118, u 119, u 120, u 121, u 122, u 123, u 124, u 125, u 126, u 127]
theorem fr128_of (T : Array Value) (h : T.size = 128) : ∃ u, T = fr128 u := by
  refine ⟨fun i => T.getD i undef, ?_⟩
  apply Array.ext'
  rw [show (fr128 fun i => T.getD i undef).toList = (List.range 128).map fun i => T.getD i undef from rfl]
  apply List.ext_getElem?
  intro i
  by_cases hi : i < 128
  · rw [List.getElem?_map, List.getElem?_range hi, Option.map_some, Array.getD_eq_getD_getElem?, Array.getElem?_toList, Array.getElem?_eq_getElem (by omega), Option.getD_some]
  · rw [List.getElem?_eq_none (by rw [Array.length_toList]; omega), List.getElem?_eq_none (by simp; omega)]
def AtNext (w : World) (B1 B2 B3 Bo Bm : Nat) (ra ba oa ha pa : Option Addr) (rn rc bn bc on oc hn hc pn pc : Nat) (m : Mkt) (o : Outc) (r : Nat) (a' : Act) (w' : World) : Prop :=
  r + leftN pn (lv (woodOf m o) r) ≤ pn ∧ ∃ lf : Int, Hunt w B1 B2 B3 Bo Bm ra ba oa ha pa rn rc bn bc on oc hn hc pn pc m o (lv (woodOf m o) r) lf w' ∧
  ∃ T : Array Value, a' = { tmps := T, defers := [] } ∧ T.size = 128 ∧ T.getD 2 undef = .pointer (some ⟨B1, 0, none⟩) ∧ T.getD 3 undef = .pointer (some ⟨B2, 0, none⟩) ∧ T.getD 4 undef = .slice none 0 0 ∧ T.getD 5 undef = .int .i64 0 ∧ T.getD 6 undef = .pointer (some ⟨B3, 0, none⟩) ∧
    T.getD 7 undef = .slice (some ⟨Bo, 0, none⟩) pn pn ∧ T.getD 8 undef = .int .i64 lf ∧ T.getD 9 undef = .map (some Bm) ∧ T.getD 11 undef = .int .i64 ((r : Int) + 1)

/-- how many are left: what a pass that jumps back lowers -/
def fofMu (a : Act) (_ : World) : Nat := (intOf (a.tmps.getD 8 undef)).toNat
def scopeIn : Code → Option Code
  | .scope c => some c
  | .seq a b => match scopeIn a with
    | some c => some c
    | none => scopeIn b
  | .block _ c => scopeIn c
  | _ => none
def behind : Option Code → Code
  | some (.seq .skip c) => c
  | _ => .skip
/-- the code behind the label -/
noncomputable def fofPass : Code := behind ((Tryz.f38.body.bind scopeIn).bind fun c => findLabel c 0)
/-- what comes back -/
def FofSays (m : Mkt) (o : Outc) (w : World) (e : Ending) (w' : World) : Prop :=
  Below w.heap.size w w' ∧ ((allB (woodOf m o) = true ∧ ∃ a n c, e = .returned (.tuple #[.slice a n c, .int .i64 0]) ∧ Whys w' a n c (outL o.prices.length (lv (woodOf m o) o.prices.length))) ∨
    (allB (woodOf m o) = false ∧ e = .returned (.tuple #[.slice none 0 0, .int .i64 7])))
end Go.Proofs.YtbnjeegicbffeaaGreat

/- Forests in plain words: one round of the search: what is found, and what is laid down of it. -/
namespace Go.Proofs.YtbnjeegicbffeaaGreat
open Go.RowKit Sale Tree

/-- what one round has found among the first k -/
def fF (W : Wood) (s : Sta) (r k : Nat) (x : Int) : Option Int := if 0 ≤ x ∧ x < (k : Int) then (match s x.toNat with | some _ => none | none => (seek W s r x.toNat).map fun i : Nat => (i : Int)) else none
def fN (W : Wood) (s : Sta) (r k : Nat) : Nat := ((List.range k).filter fun j => (s j).isNone && (seek W s r j).isSome).length
theorem fF_at {W : Wood} {s : Sta} {r k j : Nat} : fF W s r k (j : Int) = if j < k then (match s j with | some _ => none | none => (seek W s r j).map fun i : Nat => (i : Int)) else none := by
  unfold fF
  by_cases h : j < k
  · rw [if_pos (by omega), if_pos h, Int.toNat_natCast]
  · rw [if_neg (by omega), if_neg h]
theorem fF_zero (W : Wood) (s : Sta) (r : Nat) : fF W s r 0 = fun _ => none := by
  funext x; unfold fF; rw [if_neg (by omega)]
theorem fN_zero (W : Wood) (s : Sta) (r : Nat) : fN W s r 0 = 0 := rfl
theorem fF_idle {W : Wood} {s : Sta} {r k : Nat} (h : (match s k with | some _ => none | none => (seek W s r k).map fun i : Nat => (i : Int)) = none) : fF W s r (k + 1) = fF W s r k := by
  funext x
  unfold fF
  by_cases hx : 0 ≤ x ∧ x < (k : Int)
  · rw [if_pos (by omega), if_pos hx]
  · rw [if_neg hx]
    by_cases e : x = (k : Int)
    · subst e; rw [if_pos (by omega), Int.toNat_natCast]; exact h
    · rw [if_neg (by omega)]
theorem fN_succ (W : Wood) (s : Sta) (r k : Nat) : fN W s r (k + 1) = fN W s r k + if (s k).isNone && (seek W s r k).isSome then 1 else 0 := by
  unfold fN
  rw [List.range_succ, List.filter_append, List.length_append]
  cases h : ((s k).isNone && (seek W s r k).isSome) <;> simp [h]
theorem fN_le (W : Wood) (s : Sta) (r : Nat) : ∀ k, fN W s r k ≤ k := fun k => by
  have := List.length_filter_le (fun j => (s j).isNone && (seek W s r j).isSome) (List.range k)
  simpa [fN] using this
theorem f_had {W : Wood} {s : Sta} {r k : Nat} {p : Int × Nat} (h : s k = some p) : fF W s r (k + 1) = fF W s r k ∧ fN W s r (k + 1) = fN W s r k :=
  ⟨fF_idle (by rw [h]), by rw [fN_succ, h]; simp⟩
theorem f_none {W : Wood} {s : Sta} {r k : Nat} (h : s k = none) (hk : seek W s r k = none) : fF W s r (k + 1) = fF W s r k ∧ fN W s r (k + 1) = fN W s r k :=
  ⟨fF_idle (by rw [h, hk]; rfl), by rw [fN_succ, hk]; simp⟩
theorem f_some {W : Wood} {s : Sta} {r k i : Nat} (h : s k = none) (hk : seek W s r k = some i) : fF W s r (k + 1) = putI (fF W s r k) (k : Int) (i : Int) ∧ fN W s r (k + 1) = fN W s r k + 1 := by
  refine ⟨?_, by rw [fN_succ, h, hk]; simp⟩
  funext x
  unfold putI
  by_cases e : x = (k : Int)
  · subst e; rw [if_pos rfl, fF_at, if_pos (by omega), h, hk]; rfl
  · rw [if_neg e]
    unfold fF
    by_cases hx : 0 ≤ x ∧ x < (k : Int)
    · rw [if_pos hx, if_pos (by omega)]
    · rw [if_neg hx, if_neg (by omega)]
theorem fF_new (W : Wood) (s : Sta) (r k : Nat) : fF W s r k (k : Int) = none := by rw [fF_at, if_neg (by omega)]
/-- the search of one item, step by step -/
def seekTo (W : Wood) (s : Sta) (r j n : Nat) : Option Nat := (List.range n).find? fun i => rkOf s (W.now i) == some r && W.well i j
theorem seek_on {W : Wood} {s : Sta} {r j n : Nat} (h : seekTo W s r j n = none) (hn : (rkOf s (W.now n) == some r && W.well n j) = false) : seekTo W s r j (n + 1) = none := by
  unfold seekTo at *
  rw [List.range_succ, List.find?_append, h]
  simp only [Option.none_or, List.find?_cons, hn, List.find?_nil]
theorem seek_at {W : Wood} {s : Sta} {r j n : Nat} (h : seekTo W s r j n = none) (hM : n < W.M) (hn : (rkOf s (W.now n) == some r && W.well n j) = true) : seek W s r j = some n := by
  unfold seek
  have e : List.range W.M = List.range n ++ n :: List.range' (n + 1) (W.M - n - 1) := by
    rw [show n :: List.range' (n + 1) (W.M - n - 1) = List.range' n (W.M - n) by
      rw [show W.M - n = (W.M - n - 1) + 1 by omega, List.range'_succ, show W.M - n - 1 + 1 - 1 = W.M - n - 1 by omega]]
    rw [List.range_eq_range', List.range_eq_range']
    have := List.range'_append_1 (s := 0) (m := n) (n := W.M - n)
    rw [Nat.zero_add] at this
    rw [this]
    congr 1; omega
  rw [e, List.find?_append]
  rw [show (List.range n).find? (fun i => rkOf s (W.now i) == some r && W.well i j) = none from h]
  simp only [Option.none_or, List.find?_cons, hn]
theorem seek_all {W : Wood} {s : Sta} {r j : Nat} : seekTo W s r j W.M = seek W s r j := rfl

/-- what is laid down, those that are still to come left out -/
def sG (W : Wood) (N : Nat) (s : Sta) (r : Nat) (left : Int → Bool) : Sta := fun j => if j < N then (match s j with | some x => some x | none => if left (j : Int) then none else (seek W s r j).map fun i : Nat => ((i : Int), r + 1)) else none
theorem sG_start (W : Wood) (N : Nat) (s : Sta) (r : Nat) : sG W N s r (fun x => (fF W s r N x).isSome) = clipS N s := by
  funext j
  unfold sG clipS
  by_cases h : j < N
  · rw [if_pos h, if_pos h]
    show (match s j with | some x => some x | none => if (fF W s r N (j : Int)).isSome then none else (seek W s r j).map fun i : Nat => ((i : Int), r + 1)) = s j
    rw [fF_at, if_pos h]
    cases hs : s j with
    | some x => rfl
    | none =>
      cases hk : seek W s r j with
      | none => simp
      | some i => simp
  · rw [if_neg h, if_neg h]
theorem sG_end {W : Wood} {N : Nat} {s : Sta} {r : Nat} {left : Int → Bool} (h : ∀ j : Nat, j < N → left (j : Int) = false) : sG W N s r left = clipS N (grow W s r) := by
  funext j
  unfold sG clipS
  by_cases hj : j < N
  · rw [if_pos hj, if_pos hj, h j hj]
    cases hs : s j with
    | some x => rw [grow_some hs]
    | none => rw [grow_none hs]; cases seek W s r j <;> rfl
  · rw [if_neg hj, if_neg hj]
theorem sG_none {W : Wood} {N : Nat} {s : Sta} {r : Nat} {left : Int → Bool} {j : Nat} (hl : left (j : Int) = true) (hs : s j = none) : sG W N s r left j = none := by
  unfold sG
  rw [hs, hl]; simp
theorem sG_put {W : Wood} {N : Nat} {s : Sta} {r : Nat} {left : Int → Bool} {j i : Nat} (hj : j < N) (hs : s j = none) (hk : seek W s r j = some i) :
    sG W N s r (fun z => left z && !decide (z = (j : Int))) = putS (sG W N s r left) j ((i : Int), r + 1) := by
  funext k
  by_cases e : k = j
  · subst e
    rw [putS_same]
    unfold sG
    rw [if_pos hj, hs, hk]; simp
  · rw [putS_other e]
    have hd : decide ((k : Int) = (j : Int)) = false := by simp; omega
    unfold sG
    simp only [hd, Bool.not_false, Bool.and_true]
/-- what the map holds, of an item that is there -/
theorem fF_is {W : Wood} {s : Sta} {r N : Nat} {x : Int} (h : (fF W s r N x).isSome = true) : ∃ j i : Nat, x = (j : Int) ∧ j < N ∧ s j = none ∧ seek W s r j = some i ∧ fF W s r N x = some (i : Int) := by
  unfold fF at h
  split at h
  · rename_i hx
    obtain ⟨j, rfl⟩ := Int.eq_ofNat_of_zero_le hx.1
    rw [Int.toNat_natCast] at h
    cases hs : s j with
    | some p => rw [hs] at h; cases h
    | none =>
      rw [hs] at h
      cases hk : seek W s r j with
      | none => rw [hk] at h; cases h
      | some i => exact ⟨j, i, rfl, by omega, hs, hk, by rw [fF_at, if_pos (by omega), hs, hk]; rfl⟩
  · cases h
theorem seek_lt {W : Wood} {s : Sta} {r j i : Nat} (h : seek W s r j = some i) : i < W.M := by
  unfold seek at h
  exact List.mem_range.1 (List.mem_of_find?_eq_some h)
/-- how many are left behind a round -/
theorem left_grow (W : Wood) (s : Sta) (r : Nat) : ∀ N : Nat, leftN N (grow W s r) + fN W s r N = leftN N s
  | 0 => rfl
  | N + 1 => by
    have := left_grow W s r N
    rw [leftN_succ, leftN_succ, fN_succ]
    cases hs : s N with
    | some p => rw [grow_some hs]; simp; omega
    | none =>
      rw [grow_none hs]
      cases hk : seek W s r N with
      | none => simp; omega
      | some i => simp; omega
theorem left_clip (N : Nat) (s : Sta) : leftN N (clipS N s) = leftN N s := leftN_congr fun j hj => by simp [clipS, hj]
theorem outL_clip (n : Nat) (s : Sta) : outL n (clipS n s) = outL n s := by
  unfold outL
  refine List.map_congr_left fun j hj => ?_
  simp [clipS, List.mem_range.1 hj]
theorem clip_clip (N : Nat) (s : Sta) : clipS N (clipS N s) = clipS N s := by
  funext j; unfold clipS; by_cases h : j < N <;> simp [h]
theorem clip_sG (W : Wood) (N : Nat) (s : Sta) (r : Nat) (left : Int → Bool) : clipS N (sG W N s r left) = sG W N s r left := by
  funext j; unfold clipS sG; by_cases h : j < N <;> simp [h]
theorem none_new {W : Wood} {s : Sta} {r N : Nat} (h : fN W s r N = 0) : ∀ j, j < N → grow W s r j = s j := fun j hj => by
  cases hs : s j with
  | some p => rw [grow_some hs]
  | none =>
    rw [grow_none hs]
    cases hk : seek W s r j with
    | none => rfl
    | some i =>
      exfalso
      have : j ∈ (List.range N).filter fun j => (s j).isNone && (seek W s r j).isSome := List.mem_filter.2 ⟨List.mem_range.2 hj, by simp [hs, hk]⟩
      have h2 := List.length_pos_of_mem this
      unfold fN at h
      omega
theorem outL_bd {n : Nat} {s : Sta} (h : ∀ j x, s j = some x → -1 ≤ x.1 ∧ x.1 ≤ 1000 ∧ x.2 ≤ 1000) : ∀ p, p ∈ outL n s → (-9223372036854775808 ≤ p.1 ∧ p.1 ≤ 9223372036854775807) ∧ -9223372036854775808 ≤ p.2 ∧ p.2 ≤ 9223372036854775807 := by
  intro p hp
  unfold outL at hp
  obtain ⟨j, _, rfl⟩ := List.mem_map.1 hp
  cases hs : s j with
  | none => simp
  | some x => have := h j x hs; simp; omega
theorem lv_bd {W : Wood} {n : Nat} (hM : W.M ≤ 8) (hn : n ≤ 100) : ∀ j x, lv W n j = some x → -1 ≤ x.1 ∧ x.1 ≤ 1000 ∧ x.2 ≤ 1000 := by
  intro j x h
  rcases lv_is h with ⟨rfl, _⟩ | ⟨_, i, r, rfl, hr, _, hi, _⟩
  · simp
  · simp; omega
theorem some_left {N : Nat} {s : Sta} (h : 0 < leftN N s) : ∃ j, j < N ∧ s j = none := by
  apply Classical.byContradiction
  intro hno
  have : leftN N s = 0 := leftN_zero.2 fun j hj => by
    cases hs : s j with
    | some x => exact ⟨x, rfl⟩
    | none => exact absurd ⟨j, hj, hs⟩ hno
  omega
theorem MapI.lenRun {w : World} {b n : Nat} {f : Int → Option Int} {cnt : Nat} (h : MapI w b n f cnt) (ty : TypeId) : (Builtin.len_ #[113] ty #[.map (some b)]).run Tryz.prog w = .ok (.int .i64 cnt) w := by
  obtain ⟨D, hO, _, hs⟩ := h
  subst hs
  exact hO.len Tryz.underlying113 ty
theorem grown_set (W : World) (a : Addr) (v : Value) : W.grownBy (W.setCell a v) (some a.block) :=
  ⟨rfl, rfl, rfl, (KeepsWalks.setCell W a v).size, fun k _ hk => Below.heap_setCell W a v k (fun e => hk (by rw [e]))⟩
end Go.Proofs.YtbnjeegicbffeaaGreat

/- Walks: forests.Of: one pass behind the label. -/
namespace Go.Proofs.YtbnjeegicbffeaaGreat
open Go.RowKit Sale Tree

/-- the state while items are gone through -/
structure Finds (w : World) (B1 B2 B3 Bo Bm Bf : Nat) (ra ba oa ha pa : Option Addr) (rn rc bn bc on oc hn hc pn pc : Nat) (m : Mkt) (o : Outc) (r k : Nat) (wr : World) : Prop where
  view : VAt w B1 B2 B3 ra ba oa ha pa rn rc bn bc on oc hn hc pn pc m o wr
  out : WRow wr Bo (outL pn (lv (woodOf m o) r))
  ranks : ∃ n cnt, n + leftN pn (lv (woodOf m o) r) = pn + 1 ∧ MapI wr Bm n (rkF (clipS pn (lv (woodOf m o) r))) cnt
  found : MapI wr Bf (fN (woodOf m o) (lv (woodOf m o) r) r k) (fF (woodOf m o) (lv (woodOf m o) r) r k) (fN (woodOf m o) (lv (woodOf m o) r) r k)
theorem Finds.step {w : World} {B1 B2 B3 Bo Bm Bf : Nat} {ra ba oa ha pa : Option Addr} {rn rc bn bc on oc hn hc pn pc : Nat} {m : Mkt} {o : Outc} {r k : Nat} {wr wr' : World} (h : Finds w B1 B2 B3 Bo Bm Bf ra ba oa ha pa rn rc bn bc on oc hn hc pn pc m o r k wr) (hb : Below wr.heap.size wr wr') :
    Finds w B1 B2 B3 Bo Bm Bf ra ba oa ha pa rn rc bn bc on oc hn hc pn pc m o r k wr' :=
  ⟨h.view.step hb, h.out.step hb, by obtain ⟨n, cnt, e, hM⟩ := h.ranks; exact ⟨n, cnt, e, hM.below hb⟩, h.found.below hb⟩

/-- the state while what is found is laid down -/
structure Lays (w : World) (B1 B2 B3 Bo Bm Bf rb : Nat) (ra ba oa ha pa : Option Addr) (rn rc bn bc on oc hn hc pn pc : Nat) (m : Mkt) (o : Outc) (r : Nat) (left : Int → Bool) (cnt : Nat) (wr : World) : Prop where
  view : VAt w B1 B2 B3 ra ba oa ha pa rn rc bn bc on oc hn hc pn pc m o wr
  out : WRow wr Bo (outL pn (sG (woodOf m o) pn (lv (woodOf m o) r) r left))
  ranks : ∃ n cnt, n + leftN pn (sG (woodOf m o) pn (lv (woodOf m o) r) r left) = pn + 1 ∧ MapI wr Bm n (rkF (sG (woodOf m o) pn (lv (woodOf m o) r) r left)) cnt
  found : MapI wr Bf (fN (woodOf m o) (lv (woodOf m o) r) r pn) (fF (woodOf m o) (lv (woodOf m o) r) r pn) (fN (woodOf m o) (lv (woodOf m o) r) r pn)
  rng : RangeI wr Bf rb (fN (woodOf m o) (lv (woodOf m o) r) r pn) (fF (woodOf m o) (lv (woodOf m o) r) r pn) left cnt
  sub : ∀ x, left x = true → (fF (woodOf m o) (lv (woodOf m o) r) r pn x).isSome = true
theorem WRow.setBoth {w : World} {B : Nat} {l : List (Int × Int)} (h : WRow w B l) {k : Nat} {p : Int × Int} (hp : l[k]? = some p) (x y : Int) : WRow ((w.setCell ⟨B, k * 2, none⟩ (.int .i64 x)).setCell ⟨B, k * 2 + 1, none⟩ (.int .i64 y)) B (l.set k (x, y)) := by
  have h1 := WRow.set1 h hp x
  have hk := (List.getElem?_eq_some_iff.1 hp).1
  have h2 := WRow.set2 h1 (k := k) (p := (x, p.2)) (by rw [List.getElem?_set, if_pos rfl, if_pos hk]) y
  rwa [List.set_set] at h2
theorem Whys.of_row {w : World} {B : Nat} {l : List (Int × Int)} (h : WRow w B l) (hbig : l.length ≤ 1000000) (hbd : ∀ p, p ∈ l → (-9223372036854775808 ≤ p.1 ∧ p.1 ≤ 9223372036854775807) ∧ -9223372036854775808 ≤ p.2 ∧ p.2 ≤ 9223372036854775807) : Whys w (some ⟨B, 0, none⟩) l.length l.length l :=
  ⟨rfl, Nat.le_refl _, by omega, fun _ => ⟨_, _, rfl⟩, fun b o e k p hp => by
    cases e
    have := h.cell hp
    simpa using this, hbd⟩

set_option maxRecDepth 100000 in
set_option maxHeartbeats 4000000 in
theorem fof_pass (ra ba oa ha pa : Option Addr) (rn rc bn bc on oc hn hc pn pc : Nat) (m : Mkt) (o : Outc) (w : World) (hm : MktAt w ra ba oa rn rc bn bc on oc m) (ho : OutAt w ha pa hn hc pn pc o) (hfit : FitOk m o) (B1 B2 B3 : Nat) (a' : Act) (w' : World)
    (hJ : ∃ r Bo Bm, AtNext w B1 B2 B3 Bo Bm ra ba oa ha pa rn rc bn bc on oc hn hc pn pc m o r a' w') :
    fofPass.wp Tryz.prog (Exit.jump 0 (fun a'' w'' => (∃ r Bo Bm, AtNext w B1 B2 B3 Bo Bm ra ba oa ha pa rn rc bn bc on oc hn hc pn pc m o r a'' w'') ∧ fofMu a'' w'' < fofMu a' w') (bodyPost Tryz.prog Tryz.f38 (FofSays m o w))) a' w' := by
  obtain ⟨r, Bo, Bm, hrl, lf, hH, T, rfl, hT, t2, t3, t4, t5, t6, t7, t8, t9, t11⟩ := hJ
  obtain ⟨u, rfl⟩ := fr128_of T hT
  replace t2 : u 2 = _ := t2
  replace t3 : u 3 = _ := t3
  replace t4 : u 4 = _ := t4
  replace t5 : u 5 = _ := t5
  replace t6 : u 6 = _ := t6
  replace t7 : u 7 = _ := t7
  replace t8 : u 8 = _ := t8
  replace t9 : u 9 = _ := t9
  replace t11 : u 11 = _ := t11
  unfold fr128
  rw [t2, t3, t4, t5, t6, t7, t8, t9, t11]
  clear t2 t3 t4 t5 t6 t7 t8 t9 t11 hT
  have hhn : hn = bn := by rw [← ho.has.len, ← hm.bids.len]; exact hfit.hlen
  have hrn : pn = rn := by rw [← ho.prices.len, ← hm.res.len]; exact hfit.plen
  have hhl := ho.has.len
  have hpl := ho.prices.len
  subst hhn
  subst hrn
  have hn8 := hfit.mok.n8
  rw [hm.res.len] at hn8
  have hh8 := hfit.mok.m8
  rw [hm.bids.len] at hh8
  obtain ⟨hV, hW, ⟨n, cnt, hnl, hMp⟩, rfl, hnew⟩ := hH
  have hmm := fun w => run_makeMap (P := Tryz.prog) 113 w
  have HM := Lib.hid hm; clear hm
  have HO := Lib.hid ho; clear ho
  have HFIT := Lib.hid hfit; clear hfit
  have HHL := Lib.hid hhl; clear hhl
  have HPL := Lib.hid hpl; clear hpl
  have HN := Lib.hid hnew; clear hnew
  have hr8 : r ≤ 8 := by omega
  have HRL := Lib.hid hrl; clear hrl
  have hb0 : Below w'.heap.size w' (w'.alloc (.map #[] 0)) := (Below.refl _ _).alloc (Nat.le_refl _) _
  have HS := Lib.hid (show Finds w B1 B2 B3 Bo Bm w'.heap.size ra ba oa ha pa pn rc hn bc on oc hn hc pn pc m o r 0 (w'.alloc (.map #[] 0)) from
    ⟨hV.step hb0, hW.step hb0, ⟨n, cnt, hnl, hMp.below hb0⟩, by rw [fF_zero, fN_zero]; exact MapI.new w'⟩)
  have HBf := Lib.hid (show w.heap.size ≤ w'.heap.size ∧ Bo < w'.heap.size ∧ Bm < w'.heap.size ∧ B1 < w'.heap.size ∧ B2 < w'.heap.size ∧ B3 < w'.heap.size from
    ⟨hV.below.size, VRow.lt hW, hMp.lt, hV.v1.lt, hV.v2.lt, hV.v3.lt⟩)
  clear hV hW hMp hb0 hnl
  have HMU := Lib.hid (show ∀ a' w', fofMu a' w' = fofMu a' w' from fun _ _ => rfl); clear HMU
  obtain ⟨W, hWd⟩ : ∃ W, W = woodOf m o := ⟨_, rfl⟩
  generalize hmu : fofMu _ w' = mu
  have HMU := Lib.hid hmu; clear hmu
  conv => arg 2; whnf
  go_wp2_with fail
  clear hmm
  go_loopg [56] pn (fun g' s56 wr => ∃ k : Nat, k + g' = pn ∧ s56 = .int .i64 k ∧ Finds w B1 B2 B3 Bo Bm w'.heap.size ra ba oa ha pa pn rc hn bc on oc hn hc pn pc m o r k wr)
  case atStart => exact ⟨0, by omega, rfl, HS.out⟩
  case round =>
    obtain ⟨k, hk, rfl, hF⟩ := hrel
    have HKK := Lib.hid hk; clear hk
    by_cases hlt : k < pn
    · have hfk : rkF (clipS pn (lv (woodOf m o) r)) (k : Int) = (lv (woodOf m o) r k).map fun p => (p.2 : Int) := by rw [rkF_item]; simp [clipS, hlt]
      have HFK := Lib.hid hfk; clear hfk
      have HF := Lib.hid hF; clear hF
      obtain ⟨n1, cnt1, hn1, hM1⟩ := HF.out.ranks
      have HM1 := Lib.hid hM1; clear hM1
      have HN1 := Lib.hid hn1; clear hn1
      cases hs : lv (woodOf m o) r k with
      | some p =>
        have HS1 := Lib.hid hs; clear hs
        have HQ := Lib.hid (show rkF (clipS pn (lv (woodOf m o) r)) (k : Int) = some (p.2 : Int) by rw [HFK.out, HS1.out]; rfl)
        go_wp2_with (at_lookup; refine lookupI _ rfl _ _ rfl _ _ _ _ (k : Int) rfl HM1.out rfl ⟨by omega, by omega⟩ ?_; rw [HQ.out]; simp only [Option.getD_some, Option.isSome_some])
        go_roundg (gk - 1)
        case measure => have := HKK.out; omega
        case rel =>
          have e := f_had (W := woodOf m o) (r := r) HS1.out
          exact ⟨k + 1, by have := HKK.out; omega, by go_num, ⟨HF.out.view, HF.out.out, HF.out.ranks, by rw [e.1, e.2]; exact HF.out.found⟩⟩
      | none =>
        have HS1 := Lib.hid hs; clear hs
        have HQ := Lib.hid (show rkF (clipS pn (lv (woodOf m o) r)) (k : Int) = none by rw [HFK.out, HS1.out]; rfl)
        have c0 := HF.out.view.v2.cell (k := 0) rfl
        go_wp2_with (at_lookup; refine lookupI _ rfl _ _ rfl _ _ _ _ (k : Int) rfl HM1.out rfl ⟨by omega, by omega⟩ ?_; rw [HQ.out]; simp only [Option.getD_none, Option.isSome_none])
        obtain ⟨wo, hwo⟩ : ∃ wo : World, wo = wr := ⟨_, rfl⟩
        obtain ⟨go, rfl⟩ : ∃ go : Nat, go = gk := ⟨_, rfl⟩
        go_loopg [69] hn (fun g' s69 wx => ∃ i : Nat, i + g' = hn ∧ s69 = .int .i64 i ∧ Finds w B1 B2 B3 Bo Bm w'.heap.size ra ba oa ha pa pn rc hn bc on oc hn hc pn pc m o r k wx ∧ seekTo (woodOf m o) (lv (woodOf m o) r) r k i = none)
        case atStart => exact ⟨0, by omega, rfl, HF.out, rfl⟩
        case round =>
          obtain ⟨i, hi, rfl, hF2, hsk⟩ := hrel
          have HII := Lib.hid hi; clear hi
          have HSK := Lib.hid hsk; clear hsk
          by_cases hli : i < hn
          · obtain ⟨x, hx, _⟩ := hF2.view.out.has.get hli
            obtain ⟨hb, ho', rfl⟩ := hF2.view.out.has.addr (by omega)
            have cx := hF2.view.out.has.cell hb ho' rfl i x hx
            have hxi := HFIT.out.item x (List.mem_of_getElem? hx)
            rw [HFIT.out.plen.symm, HPL.out] at hxi
            have hrk := rkF_now (clipS pn (lv (woodOf m o) r)) o i x hx hxi.1
            have hrc : rkOf (clipS pn (lv (woodOf m o) r)) (nowOf o i) = rkOf (lv (woodOf m o) r) ((woodOf m o).now i) := by
              show rkOf _ (nowOf o i) = rkOf _ (nowOf o i)
              cases hno : nowOf o i with
              | none => rfl
              | some j =>
                have hjn := HFIT.out.now i j hno
                have hjn : j < pn := by rw [← HPL.out]; exact hjn
                simp [rkOf, clipS, hjn]
            rw [hrc] at hrk
            obtain ⟨n2, cnt2, hn2, hM2⟩ := hF2.ranks
            have HM2 := Lib.hid hM2; clear hM2 hn2 hrc
            have HF2 := Lib.hid hF2; clear hF2 hx
            cases hk2 : rkOf (lv (woodOf m o) r) ((woodOf m o).now i) with
            | none =>
              have HQ2 := Lib.hid (show rkF (clipS pn (lv (woodOf m o) r)) x = none by rw [hrk, hk2]; rfl)
              have HK2 := Lib.hid hk2; clear hk2 hrk
              go_wp2_with (at_lookup; refine lookupI _ rfl _ _ rfl _ _ _ _ x rfl HM2.out rfl ⟨by omega, by omega⟩ ?_; rw [HQ2.out]; simp only [Option.getD_none, Option.isSome_none])
              go_roundg (gk - 1)
              case measure => have := HII.out; omega
              case rel => exact ⟨i + 1, by have := HII.out; omega, by go_num, HF2.out, seek_on HSK.out (by rw [HK2.out]; rfl)⟩
            | some a =>
              have HQ2 := Lib.hid (show rkF (clipS pn (lv (woodOf m o) r)) x = some (a : Int) by rw [hrk, hk2]; rfl)
              have HK2 := Lib.hid hk2; clear hk2 hrk
              by_cases har : a = r
              · subst har
                have q0 := HF2.out.view.v3.cell (k := 0) rfl
                have q1 := HF2.out.view.v3.cell (k := 1) rfl
                have q2 := HF2.out.view.v3.cell (k := 2) rfl
                have q3 := HF2.out.view.v3.cell (k := 3) rfl
                have q4 := HF2.out.view.v3.cell (k := 4) rfl
                go_wp2_with (at_lookup; refine lookupI _ rfl _ _ rfl _ _ _ _ x rfl HM2.out rfl ⟨by omega, by omega⟩ ?_; rw [HQ2.out]; simp only [Option.getD_some, Option.isSome_some])
                refine (well_any ra ba oa (some ⟨hb, ho', none⟩) pa pn rc hn bc on oc hn hc pn pc m o _ HF2.out.view.mkt HF2.out.view.out HFIT.out i hli k hlt).mono ?_
                rintro e w4 ⟨rfl, hb4⟩
                have HF4 := Lib.hid (HF2.out.step hb4); clear hb4 q0 q1 q2 q3 q4 cx
                cases hwl : wellB m o i k with
                | true =>
                  have HWL := Lib.hid hwl; clear hwl
                  have hfs := f_some (W := woodOf m o) (r := a) HS1.out (seek_at HSK.out (by show i < o.has.length; rw [HHL.out]; exact hli) (by rw [HK2.out]; show (_ == _ && wellB m o i k) = true; rw [HWL.out]; simp))
                  have HFS := Lib.hid hfs; clear hfs
                  have hfn := fN_le (woodOf m o) (lv (woodOf m o) a) a k
                  have HFN := Lib.hid (show fN (woodOf m o) (lv (woodOf m o) a) a k < 1000000 by omega); clear hfn
                  go_wp2_with (at_mapUpdate; refine updateI _ rfl _ _ _ rfl _ _ _ _ (k : Int) (i : Int) rfl HF4.out.found HFN.out rfl rfl ⟨by omega, by omega⟩ ⟨by omega, by omega⟩ (fF_new _ _ _ _) ?_)
                  intro w5 hM5 hg5
                  have hBf := HBf.out
                  have HF5 := Lib.hid (show Finds w B1 B2 B3 Bo Bm w'.heap.size ra ba oa (some ⟨hb, ho', none⟩) pa pn rc hn bc on oc hn hc pn pc m o a (k + 1) w5 from
                    ⟨HF4.out.view.grown HM.out HO.out hg5 hBf.1 (by omega) (by omega) (by omega), VRow.grownBy HF4.out.out hg5 (by simp; omega), by
                      obtain ⟨n5, cnt5, h5, hM5⟩ := HF4.out.ranks
                      exact ⟨n5, cnt5, h5, hM5.kept hg5 (by simp; omega)⟩, by rw [HFS.out.1, HFS.out.2]; exact hM5⟩)
                  clear hM5 hg5 hBf
                  go_wp2_with fail
                  go_roundg (go - 1)
                  case measure => have := HKK.out; omega
                  case rel => exact ⟨k + 1, by have := HKK.out; omega, by go_num, HF5.out⟩
                | false =>
                  have HWL := Lib.hid hwl; clear hwl
                  go_wp2_with fail
                  go_roundg (gk - 1)
                  case measure => have := HII.out; omega
                  case rel => exact ⟨i + 1, by have := HII.out; omega, by go_num, HF4.out, seek_on HSK.out (by show (_ && wellB m o i k) = false; rw [HWL.out]; simp)⟩
              · have e1 : ((a : Int) == (r : Int)) = false := by simp; omega
                go_wp2_with (at_lookup; refine lookupI _ rfl _ _ rfl _ _ _ _ x rfl HM2.out rfl ⟨by omega, by omega⟩ ?_; rw [HQ2.out]; simp only [Option.getD_some, Option.isSome_some])
                go_roundg (gk - 1)
                case measure => have := HII.out; omega
                case rel => exact ⟨i + 1, by have := HII.out; omega, by go_num, HF2.out, seek_on HSK.out (by rw [HK2.out]; simp; intro e; omega)⟩
          · obtain rfl : i = hn := by have := HII.out; omega
            have e := f_none (W := woodOf m o) (r := r) HS1.out (by rw [← seek_all]; show seekTo _ _ r k o.has.length = none; rw [HHL.out]; exact HSK.out)
            have HE := Lib.hid e; clear e
            go_wp2_with fail
            go_roundg (go - 1)
            case measure => have := HKK.out; omega
            case rel => exact ⟨k + 1, by have := HKK.out; omega, by go_num, ⟨hF2.view, hF2.out, hF2.ranks, by rw [HE.out.1, HE.out.2]; exact hF2.found⟩⟩
    · obtain rfl : k = pn := by have := HKK.out; omega
      have HF := Lib.hid hF; clear hF
      go_wp2_with (refine rangeI _ rfl _ rfl _ _ _ _ rfl HF.out.found ?_)
      intro w6 hR6 hg6 hz6
      have hb6 : Below wr.heap.size wr w6 := (Below.refl _ wr).grown hg6 (Nat.le_refl _) (fun k hk => by cases hk)
      have hsw := HF.out.found.lt
      have HL := Lib.hid (show Lays w B1 B2 B3 Bo Bm w'.heap.size wr.heap.size ra ba oa ha pa k rc hn bc on oc hn hc k pc m o r (fun x => (fF (woodOf m o) (lv (woodOf m o) r) r k x).isSome) (fN (woodOf m o) (lv (woodOf m o) r) r k) w6 from
        ⟨HF.out.view.step hb6, by rw [sG_start, outL_clip]; exact HF.out.out.step hb6, by
          obtain ⟨n5, cnt5, h5, hM5⟩ := HF.out.ranks
          exact ⟨n5, cnt5, by rw [sG_start, left_clip]; exact h5, by rw [sG_start]; exact hM5.below hb6⟩, HF.out.found.below hb6, hR6, fun x h => h⟩)
      have HSW := Lib.hid hsw; clear hsw hR6 hg6 hz6 hb6 HF HS
      obtain ⟨rb, hrb⟩ : ∃ rb, rb = wr.heap.size := ⟨_, rfl⟩
      rw [← hrb] at HL HSW ⊢
      clear hrb
      go_wp2_with fail
      go_loopg [8] (fN (woodOf m o) (lv (woodOf m o) r) r k) (fun g' s8 wx => ∃ left, Lays w B1 B2 B3 Bo Bm w'.heap.size rb ra ba oa ha pa k rc hn bc on oc hn hc k pc m o r left g' wx ∧ s8 = .int .i64 (leftN k (sG (woodOf m o) k (lv (woodOf m o) r) r left) : Nat))
      case atStart => exact ⟨_, HL.out, by rw [sG_start, left_clip]⟩
      case round =>
        obtain ⟨left, hL, rfl⟩ := hrel
        have HL2 := Lib.hid hL; clear hL HL
        go_wp2_with (refine nextI _ rfl _ rfl _ _ _ _ _ _ rfl HL2.out.rng ?done ?more)
        case done =>
          intro h0 hall
          have hse : sG (woodOf m o) k (lv (woodOf m o) r) r left = clipS k (lv (woodOf m o) (r + 1)) := sG_end fun j hj => hall (j : Int) ⟨by omega, by omega⟩
          have hlg := left_grow (woodOf m o) (lv (woodOf m o) r) r k
          rw [show grow (woodOf m o) (lv (woodOf m o) r) r = lv (woodOf m o) (r + 1) from rfl] at hlg
          have hV := HL2.out.view
          have hOut := HL2.out.out
          obtain ⟨n8, cnt8, hn9, hM8⟩ := HL2.out.ranks
          rw [hse, left_clip] at hn9 ⊢
          rw [hse] at hM8
          rw [hse, outL_clip] at hOut
          have HFD := Lib.hid HL2.out.found
          have HV := Lib.hid hV; clear hV
          have HOut := Lib.hid hOut; clear hOut
          have HM8 := Lib.hid hM8; clear hM8
          have HN9 := Lib.hid hn9; clear hn9
          clear HL2 hse hall
          obtain ⟨lf2, hlf2⟩ : ∃ lf2, lf2 = leftN k (lv (woodOf m o) (r + 1)) := ⟨_, rfl⟩
          obtain ⟨fn2, hfn2⟩ : ∃ fn2, fn2 = fN (woodOf m o) (lv (woodOf m o) r) r k := ⟨_, rfl⟩
          rw [← hlf2] at HN9 hlg ⊢
          rw [← hfn2] at HFD hlg
          have HLF := Lib.hid hlf2; clear hlf2
          have HFN := Lib.hid hfn2; clear hfn2
          have HLG := Lib.hid hlg
          have hr2 : r + lf2 + fn2 ≤ k := by have := HRL.out; omega
          clear hlg
          by_cases hp : 0 < lf2
          · by_cases hq : 0 < fn2
            · have hln := HFD.out.lenRun 3
              go_wp2_with fail
              have hmu2 : mu = leftN k (lv (woodOf m o) r) := by rw [← HMU.out]; simp [fofMu, intOf]
              refine wp_goto ?_
              exact ⟨rfl, ⟨r + 1, Bo, Bm, by rw [← HLF.out]; omega, _, ⟨HV.out, HOut.out, ⟨n8, cnt8, by rw [← HLF.out]; exact HN9.out, HM8.out⟩, by rw [← HLF.out], HN.out⟩, _, rfl, rfl, rfl, rfl, rfl, rfl, rfl, rfl, rfl, rfl, rfl⟩, by rw [hmu2]; have := HLG.out; simp [fofMu, intOf]; omega⟩
            · obtain rfl : fn2 = 0 := by omega
              have hln := HFD.out.lenRun 3
              go_wp2_with fail
              go_ret2
              obtain ⟨j, hj, hjn⟩ := some_left (N := k) (s := lv (woodOf m o) (r + 1)) (by rw [← HLF.out]; exact hp)
              have hst := none_new HFN.out.symm
              exact ⟨HV.out.below, .inr ⟨none_of (n := r) HFIT.out.now (fun j' hj' => hst j' (by rw [← HPL.out]; exact hj')) (j := j) (by show j < o.prices.length; rw [HPL.out]; exact hj) (by rw [← hst j hj]; exact hjn), rfl⟩⟩
          · obtain rfl : lf2 = 0 := by omega
            go_wp2_with fail
            go_ret2
            have hal := all_of (W := woodOf m o) (n := r + 1) HFIT.out.now (fun j hj => leftN_zero.1 HLF.out.symm j (by rw [← HPL.out]; exact hj))
            have hoe : outL o.prices.length (lv (woodOf m o) o.prices.length) = outL k (lv (woodOf m o) (r + 1)) := by
              rw [HPL.out]
              unfold outL
              refine List.map_congr_left fun j hj => ?_
              have := hal.2 j (by show j < o.prices.length; rw [HPL.out]; exact List.mem_range.1 hj)
              rw [show (woodOf m o).N = k from HPL.out] at this
              rw [this]
            have hwy := Whys.of_row HOut.out (by rw [outL_length]; omega) (outL_bd (lv_bd (by show o.has.length ≤ 8; rw [HHL.out]; exact hh8) (by omega)))
            exact ⟨HV.out.below, .inl ⟨hal.1, _, _, _, rfl, by rw [hoe]; rw [outL_length] at hwy; exact hwy⟩⟩
        case more =>
          intro x c w7 cnt7 hx7 hc7 hlx hfc hR7 hlt7 hg7 hz7 hen
          obtain ⟨j, i, rfl, hj, hs, hk, hfi⟩ := fF_is (HL2.out.sub x hlx)
          obtain rfl : (i : Int) = c := hfc _ hfi
          have hiM := seek_lt hk
          have hiM : i < hn := by rw [← HHL.out]; exact hiM
          have hBf := HBf.out
          have hNW := HN.out
          have hrb := HSW.out
          have hput := sG_put (N := k) (left := left) hj hs hk
          have hsn := sG_none (W := woodOf m o) (N := k) (r := r) hlx hs
          have hlp := leftN_put (p := ((i : Int), r + 1)) hsn hj
          rw [← hput] at hlp
          have hV7 := HL2.out.view.grown HM.out HO.out hg7 (by omega) (by omega) (by omega) (by omega)
          have hW7 : WRow w7 Bo _ := VRow.grownBy HL2.out.out hg7 (by simp; omega)
          obtain ⟨n7, cnt8, hn7, hM7⟩ := HL2.out.ranks
          have hM7 := hM7.kept hg7 (by simp; omega)
          have hF7 := HL2.out.found.kept hg7 (by simp; omega)
          have hg1 := outL_get (n := k) (s := sG (woodOf m o) k (lv (woodOf m o) r) r left) hj
          rw [hsn] at hg1
          obtain ⟨c1, c2⟩ := hW7.cell hg1
          have f1 := VRow.frozen hW7 (j * 2)
          have f2 := VRow.frozen hW7 (j * 2 + 1)
          have hW8 := hW7.setBoth hg1 (i : Int) (((r + 1 : Nat) : Int))
          rw [outL_put ((i : Int), r + 1), ← hput] at hW8
          rw [show (((r + 1 : Nat) : Int)) = (r : Int) + 1 by push_cast; rfl] at hW8
          have hV8 := (hV7.far HM.out HO.out (a := ⟨Bo, j * 2, none⟩) hNW.1 (by simp; omega) (by simp; omega) (by simp; omega) (.int .i64 (i : Int))).far HM.out HO.out (a := ⟨Bo, j * 2 + 1, none⟩) hNW.1 (by simp; omega) (by simp; omega) (by simp; omega) (.int .i64 ((r : Int) + 1))
          have hM8 := (hM7.setCell (a := ⟨Bo, j * 2, none⟩) (by simp; omega) (.int .i64 (i : Int))).setCell (a := ⟨Bo, j * 2 + 1, none⟩) (by simp; omega) (.int .i64 ((r : Int) + 1))
          have hF8 := (hF7.setCell (a := ⟨Bo, j * 2, none⟩) (by simp; omega) (.int .i64 (i : Int))).setCell (a := ⟨Bo, j * 2 + 1, none⟩) (by simp; omega) (.int .i64 ((r : Int) + 1))
          have hg8 : ∀ (W : World) (x : Nat) (v : Value), W.grownBy (W.setCell ⟨Bo, x, none⟩ v) (some Bo) := fun W x v => grown_set W ⟨Bo, x, none⟩ v
          have hR8 := (hR7.kept (hg8 w7 (j * 2) (.int .i64 (i : Int))) (by simp; omega) (by simp; omega)).kept (hg8 _ (j * 2 + 1) (.int .i64 ((r : Int) + 1))) (by simp; omega) (by simp; omega)
          have hlo : leftN k (sG (woodOf m o) k (lv (woodOf m o) r) r left) ≤ k := leftN_le _ _
          obtain ⟨lo, hlo'⟩ : ∃ lo, lo = leftN k (sG (woodOf m o) k (lv (woodOf m o) r) r left) := ⟨_, rfl⟩
          rw [← hlo'] at hlo hlp hn7 ⊢
          have hnk : rkF (sG (woodOf m o) k (lv (woodOf m o) r) r left) (j : Int) = none := by rw [rkF_item, hsn]; rfl
          have hpf : putI (rkF (sG (woodOf m o) k (lv (woodOf m o) r) r left)) (j : Int) ((r : Int) + 1) = rkF (sG (woodOf m o) k (lv (woodOf m o) r) r (fun z => left z && !decide (z = (j : Int)))) := by
            rw [hput, ← rkF_put]; push_cast; rfl
          have hn99 : n7 < 1000000 := by omega
          have HPF := Lib.hid hpf; clear hpf
          have HNK := Lib.hid hnk; clear hnk
          have HV8 := Lib.hid hV8; clear hV8 hV7
          have HW8 := Lib.hid hW8; clear hW8 hW7
          have HM8 := Lib.hid hM8; clear hM8 hM7
          have HF8 := Lib.hid hF8; clear hF8 hF7
          have HR8 := Lib.hid hR8; clear hR8 hR7
          have HLO := Lib.hid hlo'; clear hlo'
          have HLP := Lib.hid hlp
          have HSUB := Lib.hid HL2.out.sub
          have hlo1 : 1 ≤ lo := by omega
          have HN7 := Lib.hid hn7
          have HBf' := Lib.hid hBf; clear hBf
          have HNW := Lib.hid hNW; clear hNW
          have HRB := Lib.hid hrb; clear hrb
          have HHH := Lib.hid hlt7
          clear hput hsn hlp hg1 HL2 hg7 hz7 hfc hs hk hfi hlx hn7 hlt7
          go_wp2_with (at_mapUpdate; refine updateI _ rfl _ _ _ rfl _ _ _ _ (j : Int) ((r : Int) + 1) rfl HM8.out hn99 rfl rfl ⟨by omega, by omega⟩ ⟨by omega, by omega⟩ HNK.out ?_)
          intro w9 hM9 hg9
          rw [HPF.out] at hM9
          have hNW := HNW.out
          have hBf := HBf'.out
          have hrb := HRB.out
          have hV9 := HV8.out.grown HM.out HO.out hg9 (by omega) (by omega) (by omega) (by omega)
          have hW9 : WRow w9 Bo _ := VRow.grownBy HW8.out hg9 (by simp; omega)
          have hF9 := HF8.out.kept hg9 (by simp; omega)
          have hR9 := HR8.out.kept hg9 (by simp; omega) (by simp; omega)
          have HLays := Lib.hid (show Lays w B1 B2 B3 Bo Bm w'.heap.size rb ra ba oa ha pa k rc hn bc on oc hn hc k pc m o r (fun z => left z && !decide (z = (j : Int))) cnt7 w9 from
            ⟨hV9, hW9, ⟨n7 + 1, cnt8 + 1, by have h1 := HN7.out; have h2 := HLP.out; omega, hM9⟩, hF9, hR9, fun x hx => HSUB.out x (by simp only [Bool.and_eq_true] at hx; exact hx.1)⟩)
          clear hV9 hW9 hF9 hR9 hM9 hg9 hNW hBf hrb HPF HNK HV8 HW8 HM8 HF8 HR8
          go_wp2_with fail
          go_roundg cnt7
          case measure => exact HHH.out
          case rel => exact ⟨_, HLays.out, by have := HLP.out; rw [show ((lo : Int) - 1) = ((leftN k (sG (woodOf m o) k (lv (woodOf m o) r) r fun z => left z && !decide (z = (j : Int))) : Nat) : Int) by omega]⟩
end Go.Proofs.YtbnjeegicbffeaaGreat
