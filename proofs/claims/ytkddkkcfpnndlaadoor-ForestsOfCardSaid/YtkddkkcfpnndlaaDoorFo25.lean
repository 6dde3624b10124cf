/- Forests in plain words: one round of the search: what is found, and what is laid down of it. -/
import Derived.Test.YtkddkkcfpnndlaaDoorFo22
import Derived.RangeFuncOwn
namespace Go.Proofs.YtkddkkcfpnndlaaDoor
open Go.RowKit Sale Tree

/-- what one round has found among the first k -/
def fF (W : Wood) (s : Sta) (r k : Nat) (x : Int) : Option Int := if 0 ≤ x ∧ x < (k : Int) then (match s x.toNat with | some _ => none | none => (seek W s r x.toNat).map fun i : Nat => (i : Int)) else none
def fN (W : Wood) (s : Sta) (r k : Nat) : Nat := ((List.range k).filter fun j => (s j).isNone && (seek W s r j).isSome).length
theorem fF_at {W : Wood} {s : Sta} {r k j : Nat} : fF W s r k (j : Int) = if j < k then (match s j with | some _ => none | none => (seek W s r j).map fun i : Nat => (i : Int)) else none := by
  unfold fF
  by_cases h : j < k
  · rw [if_pos (by omega), if_pos h, Int.toNat_natCast]
  · rw [if_neg (by omega), if_neg h]
theorem fF_zero (W : Wood) (s : Sta) (r : Nat) : fF W s r 0 = fun _ => none := by
  funext x; unfold fF; rw [if_neg (by omega)]
theorem fN_zero (W : Wood) (s : Sta) (r : Nat) : fN W s r 0 = 0 := rfl
theorem fF_idle {W : Wood} {s : Sta} {r k : Nat} (h : (match s k with | some _ => none | none => (seek W s r k).map fun i : Nat => (i : Int)) = none) : fF W s r (k + 1) = fF W s r k := by
  funext x
  unfold fF
  by_cases hx : 0 ≤ x ∧ x < (k : Int)
  · rw [if_pos (by omega), if_pos hx]
  · rw [if_neg hx]
    by_cases e : x = (k : Int)
    · subst e; rw [if_pos (by omega), Int.toNat_natCast]; exact h
    · rw [if_neg (by omega)]
theorem fN_succ (W : Wood) (s : Sta) (r k : Nat) : fN W s r (k + 1) = fN W s r k + if (s k).isNone && (seek W s r k).isSome then 1 else 0 := by
  unfold fN
  rw [List.range_succ, List.filter_append, List.length_append]
  cases h : ((s k).isNone && (seek W s r k).isSome) <;> simp [h]
theorem fN_le (W : Wood) (s : Sta) (r : Nat) : ∀ k, fN W s r k ≤ k := fun k => by
  have := List.length_filter_le (fun j => (s j).isNone && (seek W s r j).isSome) (List.range k)
  simpa [fN] using this
theorem f_had {W : Wood} {s : Sta} {r k : Nat} {p : Int × Nat} (h : s k = some p) : fF W s r (k + 1) = fF W s r k ∧ fN W s r (k + 1) = fN W s r k :=
  ⟨fF_idle (by rw [h]), by rw [fN_succ, h]; simp⟩
theorem f_none {W : Wood} {s : Sta} {r k : Nat} (h : s k = none) (hk : seek W s r k = none) : fF W s r (k + 1) = fF W s r k ∧ fN W s r (k + 1) = fN W s r k :=
  ⟨fF_idle (by rw [h, hk]; rfl), by rw [fN_succ, hk]; simp⟩
theorem f_some {W : Wood} {s : Sta} {r k i : Nat} (h : s k = none) (hk : seek W s r k = some i) : fF W s r (k + 1) = putI (fF W s r k) (k : Int) (i : Int) ∧ fN W s r (k + 1) = fN W s r k + 1 := by
  refine ⟨?_, by rw [fN_succ, h, hk]; simp⟩
  funext x
  unfold putI
  by_cases e : x = (k : Int)
  · subst e; rw [if_pos rfl, fF_at, if_pos (by omega), h, hk]; rfl
  · rw [if_neg e]
    unfold fF
    by_cases hx : 0 ≤ x ∧ x < (k : Int)
    · rw [if_pos hx, if_pos (by omega)]
    · rw [if_neg hx, if_neg (by omega)]
theorem fF_new (W : Wood) (s : Sta) (r k : Nat) : fF W s r k (k : Int) = none := by rw [fF_at, if_neg (by omega)]
/-- the search of one item, step by step -/
def seekTo (W : Wood) (s : Sta) (r j n : Nat) : Option Nat := (List.range n).find? fun i => rkOf s (W.now i) == some r && W.well i j
theorem seek_on {W : Wood} {s : Sta} {r j n : Nat} (h : seekTo W s r j n = none) (hn : (rkOf s (W.now n) == some r && W.well n j) = false) : seekTo W s r j (n + 1) = none := by
  unfold seekTo at *
  rw [List.range_succ, List.find?_append, h]
  simp only [Option.none_or, List.find?_cons, hn, List.find?_nil]
theorem seek_at {W : Wood} {s : Sta} {r j n : Nat} (h : seekTo W s r j n = none) (hM : n < W.M) (hn : (rkOf s (W.now n) == some r && W.well n j) = true) : seek W s r j = some n := by
  unfold seek
  have e : List.range W.M = List.range n ++ n :: List.range' (n + 1) (W.M - n - 1) := by
    rw [show n :: List.range' (n + 1) (W.M - n - 1) = List.range' n (W.M - n) by
      rw [show W.M - n = (W.M - n - 1) + 1 by omega, List.range'_succ, show W.M - n - 1 + 1 - 1 = W.M - n - 1 by omega]]
    rw [List.range_eq_range', List.range_eq_range']
    have := List.range'_append_1 (s := 0) (m := n) (n := W.M - n)
    rw [Nat.zero_add] at this
    rw [this]
    congr 1; omega
  rw [e, List.find?_append]
  rw [show (List.range n).find? (fun i => rkOf s (W.now i) == some r && W.well i j) = none from h]
  simp only [Option.none_or, List.find?_cons, hn]
theorem seek_all {W : Wood} {s : Sta} {r j : Nat} : seekTo W s r j W.M = seek W s r j := rfl

/-- what is laid down, those that are still to come left out -/
def sG (W : Wood) (N : Nat) (s : Sta) (r : Nat) (left : Int → Bool) : Sta := fun j => if j < N then (match s j with | some x => some x | none => if left (j : Int) then none else (seek W s r j).map fun i : Nat => ((i : Int), r + 1)) else none
theorem sG_start (W : Wood) (N : Nat) (s : Sta) (r : Nat) : sG W N s r (fun x => (fF W s r N x).isSome) = clipS N s := by
  funext j
  unfold sG clipS
  by_cases h : j < N
  · rw [if_pos h, if_pos h]
    show (match s j with | some x => some x | none => if (fF W s r N (j : Int)).isSome then none else (seek W s r j).map fun i : Nat => ((i : Int), r + 1)) = s j
    rw [fF_at, if_pos h]
    cases hs : s j with
    | some x => rfl
    | none =>
      cases hk : seek W s r j with
      | none => simp
      | some i => simp
  · rw [if_neg h, if_neg h]
theorem sG_end {W : Wood} {N : Nat} {s : Sta} {r : Nat} {left : Int → Bool} (h : ∀ j : Nat, j < N → left (j : Int) = false) : sG W N s r left = clipS N (grow W s r) := by
  funext j
  unfold sG clipS
  by_cases hj : j < N
  · rw [if_pos hj, if_pos hj, h j hj]
    cases hs : s j with
    | some x => rw [grow_some hs]
    | none => rw [grow_none hs]; cases seek W s r j <;> rfl
  · rw [if_neg hj, if_neg hj]
theorem sG_none {W : Wood} {N : Nat} {s : Sta} {r : Nat} {left : Int → Bool} {j : Nat} (hl : left (j : Int) = true) (hs : s j = none) : sG W N s r left j = none := by
  unfold sG
  rw [hs, hl]; simp
theorem sG_put {W : Wood} {N : Nat} {s : Sta} {r : Nat} {left : Int → Bool} {j i : Nat} (hj : j < N) (hs : s j = none) (hk : seek W s r j = some i) :
    sG W N s r (fun z => left z && !decide (z = (j : Int))) = putS (sG W N s r left) j ((i : Int), r + 1) := by
  funext k
  by_cases e : k = j
  · subst e
    rw [putS_same]
    unfold sG
    rw [if_pos hj, hs, hk]; simp
  · rw [putS_other e]
    have hd : decide ((k : Int) = (j : Int)) = false := by simp; omega
    unfold sG
    simp only [hd, Bool.not_false, Bool.and_true]
/-- what the map holds, of an item that is there -/
theorem fF_is {W : Wood} {s : Sta} {r N : Nat} {x : Int} (h : (fF W s r N x).isSome = true) : ∃ j i : Nat, x = (j : Int) ∧ j < N ∧ s j = none ∧ seek W s r j = some i ∧ fF W s r N x = some (i : Int) := by
  unfold fF at h
  split at h
  · rename_i hx
    obtain ⟨j, rfl⟩ := Int.eq_ofNat_of_zero_le hx.1
    rw [Int.toNat_natCast] at h
    cases hs : s j with
    | some p => rw [hs] at h; cases h
    | none =>
      rw [hs] at h
      cases hk : seek W s r j with
      | none => rw [hk] at h; cases h
      | some i => exact ⟨j, i, rfl, by omega, hs, hk, by rw [fF_at, if_pos (by omega), hs, hk]; rfl⟩
  · cases h
theorem seek_lt {W : Wood} {s : Sta} {r j i : Nat} (h : seek W s r j = some i) : i < W.M := by
  unfold seek at h
  exact List.mem_range.1 (List.mem_of_find?_eq_some h)
/-- how many are left behind a round -/
theorem left_grow (W : Wood) (s : Sta) (r : Nat) : ∀ N : Nat, leftN N (grow W s r) + fN W s r N = leftN N s
  | 0 => rfl
  | N + 1 => by
    have := left_grow W s r N
    rw [leftN_succ, leftN_succ, fN_succ]
    cases hs : s N with
    | some p => rw [grow_some hs]; simp; omega
    | none =>
      rw [grow_none hs]
      cases hk : seek W s r N with
      | none => simp; omega
      | some i => simp; omega
theorem left_clip (N : Nat) (s : Sta) : leftN N (clipS N s) = leftN N s := leftN_congr fun j hj => by simp [clipS, hj]
theorem outL_clip (n : Nat) (s : Sta) : outL n (clipS n s) = outL n s := by
  unfold outL
  refine List.map_congr_left fun j hj => ?_
  simp [clipS, List.mem_range.1 hj]
theorem none_new {W : Wood} {s : Sta} {r N : Nat} (h : fN W s r N = 0) : ∀ j, j < N → grow W s r j = s j := fun j hj => by
  cases hs : s j with
  | some p => rw [grow_some hs]
  | none =>
    rw [grow_none hs]
    cases hk : seek W s r j with
    | none => rfl
    | some i =>
      exfalso
      have : j ∈ (List.range N).filter fun j => (s j).isNone && (seek W s r j).isSome := List.mem_filter.2 ⟨List.mem_range.2 hj, by simp [hs, hk]⟩
      have h2 := List.length_pos_of_mem this
      unfold fN at h
      omega
theorem outL_bd {n : Nat} {s : Sta} (h : ∀ j x, s j = some x → -1 ≤ x.1 ∧ x.1 ≤ 1000 ∧ x.2 ≤ 1000) : ∀ p, p ∈ outL n s → (-9223372036854775808 ≤ p.1 ∧ p.1 ≤ 9223372036854775807) ∧ -9223372036854775808 ≤ p.2 ∧ p.2 ≤ 9223372036854775807 := by
  intro p hp
  unfold outL at hp
  obtain ⟨j, _, rfl⟩ := List.mem_map.1 hp
  cases hs : s j with
  | none => simp
  | some x => have := h j x hs; simp; omega
theorem lv_bd {W : Wood} {n : Nat} (hM : W.M ≤ 8) (hn : n ≤ 100) : ∀ j x, lv W n j = some x → -1 ≤ x.1 ∧ x.1 ≤ 1000 ∧ x.2 ≤ 1000 := by
  intro j x h
  rcases lv_is h with ⟨rfl, _⟩ | ⟨_, i, r, rfl, hr, _, hi, _⟩
  · simp
  · simp; omega
theorem some_left {N : Nat} {s : Sta} (h : 0 < leftN N s) : ∃ j, j < N ∧ s j = none := by
  apply Classical.byContradiction
  intro hno
  have : leftN N s = 0 := leftN_zero.2 fun j hj => by
    cases hs : s j with
    | some x => exact ⟨x, rfl⟩
    | none => exact absurd ⟨j, hj, hs⟩ hno
  omega
theorem MapI.lenRun {w : World} {b n : Nat} {f : Int → Option Int} {cnt : Nat} (h : MapI w b n f cnt) (ty : TypeId) : (Builtin.len_ #[60] ty #[.map (some b)]).run Tryd.prog w = .ok (.int .i64 cnt) w := by
  obtain ⟨D, hO, _, hs⟩ := h
  subst hs
  exact hO.len Tryd.underlying60 ty
theorem grown_set (W : World) (a : Addr) (v : Value) : W.grownBy (W.setCell a v) (some a.block) :=
  ⟨rfl, rfl, rfl, (KeepsWalks.setCell W a v).size, fun k _ hk => Below.heap_setCell W a v k (fun e => hk (by rw [e]))⟩
end Go.Proofs.YtkddkkcfpnndlaaDoor
