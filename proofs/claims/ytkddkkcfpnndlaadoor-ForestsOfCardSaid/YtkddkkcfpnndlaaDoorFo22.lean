/- Forests in plain words: the state of the search: ranks as a map reads, how many are left. -/
import Derived.Test.YtkddkkcfpnndlaaDoorFo20
import Derived.Test.YtkddkkcfpnndlaaDoorFo21
namespace Go.Proofs.YtkddkkcfpnndlaaDoor
open Go.RowKit Sale Tree

/-- the map of ranks -/
def rkF (s : Sta) (x : Int) : Option Int := if x = -1 then some 0 else if 0 ≤ x then (s x.toNat).map fun p => (p.2 : Int) else none
theorem rkF_item (s : Sta) (j : Nat) : rkF s (j : Int) = (s j).map fun p => (p.2 : Int) := by
  unfold rkF
  rw [if_neg (by omega), if_pos (by omega), Int.toNat_natCast]
/-- by who has what -/
theorem rkF_now (s : Sta) (o : Outc) (i : Nat) (x : Int) (hx : o.has[i]? = some x) (hge : -1 ≤ x) : rkF s x = (rkOf s (nowOf o i)).map fun r : Nat => (r : Int) := by
  unfold nowOf
  rw [getD_at hx]
  by_cases h : x = -1
  · subst h; rw [if_pos rfl]; rfl
  · rw [if_neg h]
    obtain ⟨j, rfl⟩ := Int.eq_ofNat_of_zero_le (show 0 ≤ x by omega)
    rw [rkF_item, Int.toNat_natCast]
    unfold rkOf
    rw [Option.map_map]; rfl
/-- one more is found -/
def putS (s : Sta) (j : Nat) (p : Int × Nat) : Sta := fun k => if k = j then some p else s k
theorem putS_same (s : Sta) (j : Nat) (p : Int × Nat) : putS s j p j = some p := by simp [putS]
theorem putS_other {s : Sta} {j k : Nat} {p : Int × Nat} (h : k ≠ j) : putS s j p k = s k := by simp [putS, h]
theorem rkF_put (s : Sta) (j : Nat) (p : Int × Nat) : putI (rkF s) (j : Int) (p.2 : Int) = rkF (putS s j p) := by
  funext y
  unfold putI
  by_cases h : y = (j : Int)
  · subst h; rw [if_pos rfl, rkF_item, putS_same]; rfl
  · rw [if_neg h]
    unfold rkF
    by_cases h1 : y = -1
    · rw [if_pos h1, if_pos h1]
    · rw [if_neg h1, if_neg h1]
      by_cases h2 : 0 ≤ y
      · rw [if_pos h2, if_pos h2, putS_other (by omega)]
      · rw [if_neg h2, if_neg h2]
/-- how many have no reason yet -/
def leftN (N : Nat) (s : Sta) : Nat := ((List.range N).filter fun j => (s j).isNone).length
theorem leftN_le (N : Nat) (s : Sta) : leftN N s ≤ N := by
  have := List.length_filter_le (fun j => (s j).isNone) (List.range N)
  simpa [leftN] using this
theorem leftN_zero {N : Nat} {s : Sta} : leftN N s = 0 ↔ ∀ j, j < N → ∃ x, s j = some x := by
  unfold leftN
  rw [List.length_eq_zero_iff, List.filter_eq_nil_iff]
  constructor
  · intro h j hj
    have := h j (List.mem_range.2 hj)
    cases hs : s j with
    | none => rw [hs] at this; exact absurd rfl this
    | some x => exact ⟨x, rfl⟩
  · intro h j hj
    obtain ⟨x, hx⟩ := h j (List.mem_range.1 hj)
    simp [hx]
theorem leftN_succ (N : Nat) (s : Sta) : leftN (N + 1) s = leftN N s + if (s N).isNone then 1 else 0 := by
  unfold leftN
  rw [List.range_succ, List.filter_append, List.length_append]
  cases h : (s N).isNone <;> simp [h]
theorem leftN_congr {N : Nat} {s s' : Sta} (h : ∀ j, j < N → (s j).isNone = (s' j).isNone) : leftN N s = leftN N s' := by
  unfold leftN
  congr 1
  exact List.filter_congr fun j hj => h j (List.mem_range.1 hj)
theorem leftN_put {s : Sta} {j : Nat} {p : Int × Nat} (hn : s j = none) : ∀ {N : Nat}, j < N → leftN N (putS s j p) + 1 = leftN N s
  | 0, h => absurd h (Nat.not_lt_zero _)
  | N + 1, h => by
    rw [leftN_succ, leftN_succ]
    by_cases e : j = N
    · subst e
      rw [putS_same, hn]
      rw [leftN_congr (s' := s) fun k hk => by rw [putS_other (by omega)]]
      simp
    · have := leftN_put (p := p) hn (show j < N by omega)
      rw [putS_other (fun h => e h.symm)]
      omega
/-- the reasons as they lie there -/
theorem outL_put {n : Nat} {s : Sta} {j : Nat} (p : Int × Nat) : (outL n s).set j (p.1, (p.2 : Int)) = outL n (putS s j p) := by
  apply List.ext_getElem?
  intro k
  by_cases hk : k < n
  · rw [List.getElem?_set, outL_get hk, outL_get hk]
    by_cases e : j = k
    · subst e; rw [if_pos rfl, outL_length, if_pos hk, putS_same]
    · rw [if_neg e, putS_other (fun h => e h.symm)]
  · rw [List.getElem?_eq_none (by rw [List.length_set, outL_length]; omega), List.getElem?_eq_none (by rw [outL_length]; omega)]

/-- the first round: who costs its reserve, of the first k -/
def s0 (W : Wood) (k : Nat) : Sta := fun j => if j < k then lv W 0 j else none
theorem s0_zero (W : Wood) : s0 W 0 = fun _ => none := by funext j; simp [s0]
theorem s0_yes {W : Wood} {k : Nat} (h : W.res k = true) : s0 W (k + 1) = putS (s0 W k) k (-1, 0) := by
  funext j
  show (if j < k + 1 then lv W 0 j else none) = if j = k then some (-1, 0) else if j < k then lv W 0 j else none
  by_cases e : j = k
  · subst e; rw [if_pos (by omega), if_pos rfl]; simp [lv, h]
  · rw [if_neg e]
    by_cases h1 : j < k
    · rw [if_pos h1, if_pos (by omega)]
    · rw [if_neg h1, if_neg (by omega)]
theorem s0_no {W : Wood} {k : Nat} (h : W.res k = false) : s0 W (k + 1) = s0 W k := by
  funext j
  unfold s0
  by_cases e : j = k
  · subst e; rw [if_pos (by omega), if_neg (by omega)]; simp [lv, h]
  · by_cases h1 : j < k
    · rw [if_pos h1, if_pos (by omega)]
    · rw [if_neg h1, if_neg (by omega)]
theorem s0_at (W : Wood) (k : Nat) : s0 W k k = none := by simp [s0]
theorem leftN_s0 {W : Wood} {N : Nat} : leftN N (s0 W N) = leftN N (lv W 0) := leftN_congr fun j hj => by simp [s0, hj]
theorem leftN_none (N : Nat) : leftN N (fun _ => none) = N := by
  show ((List.range N).filter fun _ => true).length = N
  rw [List.filter_eq_self.2 (fun _ _ => rfl), List.length_range]
/-- the items that are there -/
def clipS (N : Nat) (s : Sta) : Sta := fun j => if j < N then s j else none
/-- as it is made: the first k have the mark -/
def l0 (n k : Nat) : List (Int × Int) := (List.range n).map fun j => if j < k then (-1, 0) else (0, 0)
theorem l0_length (n k : Nat) : (l0 n k).length = n := by simp [l0]
theorem l0_zero (n : Nat) : l0 n 0 = List.replicate n (0, 0) := by
  apply List.ext_getElem?
  intro j
  by_cases hj : j < n <;> simp [l0, hj]
theorem l0_get {n k j : Nat} (hj : j < n) : (l0 n k)[j]? = some (if j < k then (-1, 0) else (0, 0)) := by simp [l0, hj]
theorem l0_set {n k : Nat} : (l0 n k).set k (-1, 0) = l0 n (k + 1) := by
  apply List.ext_getElem?
  intro j
  by_cases hj : j < n
  · rw [List.getElem?_set, l0_get hj, l0_get hj, l0_length]
    by_cases e : k = j
    · subst e; rw [if_pos rfl, if_pos hj, if_pos (by omega)]
    · rw [if_neg e]
      by_cases h1 : j < k
      · rw [if_pos h1, if_pos (by omega)]
      · rw [if_neg h1, if_neg (by omega)]
  · rw [List.getElem?_eq_none (by rw [List.length_set, l0_length]; omega), List.getElem?_eq_none (by rw [l0_length]; omega)]
theorem l0_all (W : Wood) (n : Nat) : l0 n n = outL n (lv W 0) := by
  apply List.ext_getElem?
  intro j
  by_cases hj : j < n
  · rw [l0_get hj, outL_get hj, if_pos hj]
    simp only [lv]
    split
    · rename_i p h
      split at h
      · cases h; rfl
      · cases h
    · rfl
  · rw [List.getElem?_eq_none (by rw [l0_length]; omega), List.getElem?_eq_none (by rw [outL_length]; omega)]
end Go.Proofs.YtkddkkcfpnndlaaDoor
