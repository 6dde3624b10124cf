/- The reference's forests: the reasons so far, in memory and in plain words. -/
import Derived.Test.YtkddkkcfpnndlaaDoorFo20
import Derived.Test.YtkddkkcfpnndlaaDoorFo23
import Derived.Laws.OwnMore
import Derived.Maps.AppendAt
namespace Go.Proofs.YtkddkkcfpnndlaaDoor
open Go.RowKit Sale Tree

theorem pairVals_append (l l' : List (Int × Int)) : pairVals (l ++ l') = pairVals l ++ pairVals l' := by
  induction l with
  | nil => rfl
  | cons p l ih => show _ :: _ :: pairVals (l ++ l') = _; rw [ih]; rfl
theorem pairVals_length (l : List (Int × Int)) : (pairVals l).length = l.length * 2 := by
  induction l with
  | nil => rfl
  | cons p l ih => show (pairVals l).length + 1 + 1 = _; rw [ih, List.length_cons]; omega

/-- pairs in a block of the call's own -/
def OwnW (w : World) (base : Nat) (v : Value) (l : List (Int × Int)) : Prop := w.ownsRow base 38 2 v l.length (pairVals l)
theorem OwnW.nil (w : World) (base : Nat) : OwnW w base (.slice none 0 0) [] := World.ownsRow_nil _ _ _ _
theorem OwnW.keep {w w' : World} {base B : Nat} {v : Value} {l : List (Int × Int)} (h : OwnW w base v l) (hb : Below B w w') (hB : ∀ g, v.ownBlock = some g → g < B) : OwnW w' base v l := by
  obtain ⟨h1, h2⟩ := h
  refine ⟨h1, ?_⟩
  rcases h2 with h2 | ⟨g, cap, cur, e, hg, hh, r⟩
  · exact .inl h2
  · exact .inr ⟨g, cap, cur, e, hg, by rw [hb.block g (hB g (by rw [e]; rfl))]; exact hh, r⟩
theorem OwnW.step {w w' : World} {base : Nat} {v : Value} {l : List (Int × Int)} (h : OwnW w base v l) (hb : Below w.heap.size w w') : OwnW w' base v l := h.keep hb (fun g e => (World.ownsRow.lt h g e).2)
theorem OwnW.cell {w : World} {base g n c : Nat} {l : List (Int × Int)} (h : OwnW w base (.slice (some ⟨g, 0, none⟩) n c) l) {k : Nat} {p : Int × Int} (hp : l[k]? = some p) : w.cell? ⟨g, k * 2, none⟩ = some (.int .i64 p.1) ∧ w.cell? ⟨g, k * 2 + 1, none⟩ = some (.int .i64 p.2) ∧ (∀ j, w.frozen? ⟨g, j, none⟩ = false) ∧ n = l.length := by
  obtain ⟨e1, e2⟩ := pairVals_get hp
  have hk := (List.getElem?_eq_some_iff.1 hp).1
  have hn : n = l.length := by
    rcases h.2 with ⟨h', _⟩ | ⟨g', cap', cur, h', _⟩
    · cases h'
    · injection h'
  subst hn
  exact ⟨by rw [World.ownsRow.cellAt h _ (by omega)]; exact e1, by rw [World.ownsRow.cellAt h _ (by omega)]; exact e2, fun j => World.ownsRow.frozenAt h j, rfl⟩
theorem OwnW.put {w : World} {base g c : Nat} {l : List (Int × Int)} (h : OwnW w base (.slice (some ⟨g, 0, none⟩) l.length c) l) {k : Nat} (hk : k < l.length) (x y : Int) : OwnW ((w.setCell ⟨g, k * 2, none⟩ (.int .i64 x)).setCell ⟨g, k * 2 + 1, none⟩ (.int .i64 y)) base (.slice (some ⟨g, 0, none⟩) l.length c) (l.set k (x, y)) := by
  have h1 := (World.ownsRow.stored h (k * 2) (.int .i64 x)).1
  have h2 := (World.ownsRow.stored h1 (k * 2 + 1) (.int .i64 y)).1
  have hp : l[k]? = some l[k] := by simp
  rw [pairVals_set1 x hp, pairVals_set2 y (k := k) (p := (x, l[k].2)) (by rw [List.getElem?_set, if_pos rfl, if_pos hk]), List.set_set] at h2
  unfold OwnW
  rw [List.length_set]; exact h2
theorem OwnW.form {w : World} {base : Nat} {v : Value} {l : List (Int × Int)} (h : OwnW w base v l) (hl : 0 < l.length) : ∃ g c, v = .slice (some ⟨g, 0, none⟩) l.length c ∧ base ≤ g ∧ g < w.heap.size ∧ l.length ≤ c := by
  rcases h.2 with ⟨_, h0⟩ | ⟨g, cap, cur, hv, hb, hg, hn, _⟩
  · omega
  · exact ⟨g, cap, hv, hb, (Array.getElem?_eq_some_iff.1 hg).1, hn⟩
theorem OwnW.whys {w : World} {base g c : Nat} {l : List (Int × Int)} (h : OwnW w base (.slice (some ⟨g, 0, none⟩) l.length c) l) (hbig : l.length ≤ 4611686018427387904) (hbd : ∀ p, p ∈ l → (-9223372036854775808 ≤ p.1 ∧ p.1 ≤ 9223372036854775807) ∧ -9223372036854775808 ≤ p.2 ∧ p.2 ≤ 9223372036854775807) : Whys w (some ⟨g, 0, none⟩) l.length c l := by
  refine ⟨rfl, ?_, hbig, fun _ => ⟨_, _, rfl⟩, fun b o e k p hp => ?_, hbd⟩
  · rcases h.2 with ⟨h', _⟩ | ⟨g', cap', cur, h', _, _, hn, _⟩
    · cases h'
    · injection h' with _ _ e3; omega
  · cases e
    have := h.cell hp
    rw [Nat.zero_add]
    exact ⟨this.1, this.2.1⟩

/-- 'append(l, Why{..})' -/
theorem appW1 {ops : Array Oper} {rest : List Oper} {o : Oper} {a : Act} {Q : Exit → Act → World → Prop} (w : World) (hgd : o.guard = none) (s x : Operand)
    (ho : o.op = .call { callee := .builtin .append, args := #[s, x], argTypes := #[28, 28] })
    (base : Nat) (v : Value) (l : List (Int × Int)) (hs : a.eval s = v) (hown : OwnW w base v l) (xb : Nat) (p : Int × Int) (hx : a.eval x = .slice (some ⟨xb, 0, none⟩) 1 1)
    (hc0 : w.cell? ⟨xb, 0, none⟩ = some (.int .i64 p.1)) (hc1 : w.cell? ⟨xb, 1, none⟩ = some (.int .i64 p.2)) (hlen : l.length < 1000000) (hbase : base ≤ w.heap.size)
    (h : ∀ g cap w', OwnW w' base (.slice (some ⟨g, 0, none⟩) (l.length + 1) cap) (l ++ [p]) → Below base w w' → wpList Tryd.prog ops Q rest (a.put o.dst (.slice (some ⟨g, 0, none⟩) (l.length + 1) cap)) w') : wpList Tryd.prog ops Q (o :: rest) a w := by
  obtain ⟨i0, hi, hz0, hz1, hz2⟩ := info_parts infoWhy
  refine wpList_append_own_at w hgd s x _ ho base 38 i0 _ 2 16 Tryd.underlying28 hi hz0 hz1 hz2 rfl (by decide) v l.length _ hs hown ⟨xb, 0, none⟩ 1 1 [.int .i64 p.1, .int .i64 p.2] hx rfl ?_ ?_ ?_ ?_ hbase ?_
  · intro j u hu
    match j, hu with
    | 0, hu => simp at hu; subst hu; simpa [Addr.add] using hc0
    | 1, hu => simp at hu; subst hu; simpa [Addr.add] using hc1
    | j + 2, hu => simp at hu
  · intro u hu; simp at hu; rcases hu with rfl | rfl <;> rfl
  · unfold maxLen; omega
  · omega
  · intro v' w' hown' hg hnil hat
    have h' : OwnW w' base v' (l ++ [p]) := by
      unfold OwnW
      rw [List.length_append, pairVals_append]; exact hown'
    obtain ⟨g, c, rfl, _⟩ := h'.form (by simp)
    rw [List.length_append] at h' ⊢
    exact h g c w' h' ((Below.refl base w).grown hg hbase fun k hk => (World.ownsRow.lt hown k hk).1)
/-- 'append(nil, l...)' -/
theorem appWAll {ops : Array Oper} {rest : List Oper} {o : Oper} {a : Act} {Q : Exit → Act → World → Prop} (w : World) (hgd : o.guard = none) (s x : Operand)
    (ho : o.op = .call { callee := .builtin .append, args := #[s, x], argTypes := #[28, 28] })
    (hs : a.eval s = .slice none 0 0) (base g c n : Nat) (l : List (Int × Int)) (hx : a.eval x = .slice (some ⟨g, 0, none⟩) n c) (hn : l.length = n) (hown : OwnW w base (.slice (some ⟨g, 0, none⟩) n c) l) (hpos : 0 < n) (hlen : n < 1000000)
    (h : ∀ g' cap w', OwnW w' w.heap.size (.slice (some ⟨g', 0, none⟩) n cap) l → Below w.heap.size w w' → wpList Tryd.prog ops Q rest (a.put o.dst (.slice (some ⟨g', 0, none⟩) n cap)) w') : wpList Tryd.prog ops Q (o :: rest) a w := by
  subst hn
  obtain ⟨i0, hi, hz0, hz1, hz2⟩ := info_parts infoWhy
  refine wpList_append_own_at w hgd s x _ ho w.heap.size 38 i0 _ 2 16 Tryd.underlying28 hi hz0 hz1 hz2 rfl (by decide) (.slice none 0 0) 0 [] hs (World.ownsRow_nil _ _ _ _) ⟨g, 0, none⟩ l.length c (pairVals l) hx (pairVals_length l) ?_ ?_ ?_ ?_ (Nat.le_refl _) ?_
  · exact World.ownsRow.cells hown rfl
  · intro u hu
    clear hown hx hpos hlen h
    induction l with
    | nil => cases hu
    | cons p l ih =>
      simp only [pairVals, List.mem_cons] at hu
      rcases hu with rfl | rfl | hu
      · rfl
      · rfl
      · exact ih hu
  · unfold maxLen; omega
  · omega
  · intro v' w' hown' hg _ _
    have h' : OwnW w' w.heap.size v' l := by
      unfold OwnW
      have := hown'
      simp only [Nat.zero_add, List.nil_append] at this
      exact this
    obtain ⟨g', c', rfl, _⟩ := h'.form hpos
    exact h g' c' w' h' ((Below.refl _ w).grown hg (Nat.le_refl _) fun k hk => by cases hk)

theorem cell2_new (W : World) (a b : Value) (T : TypeId) : (W.alloc (.cells #[a, b] T)).cell? ⟨W.heap.size, 0, none⟩ = some a ∧ (W.alloc (.cells #[a, b] T)).cell? ⟨W.heap.size, 1, none⟩ = some b :=
  ⟨VRow.cell (show VRow (W.alloc (.cells #[a, b] T)) W.heap.size T [a, b] from heap_alloc_new W _) rfl, VRow.cell (show VRow (W.alloc (.cells #[a, b] T)) W.heap.size T [a, b] from heap_alloc_new W _) rfl⟩
theorem OwnW.lower {w : World} {base base' : Nat} {v : Value} {l : List (Int × Int)} (h : OwnW w base v l) (hb : base' ≤ base) : OwnW w base' v l :=
  ⟨h.1, h.2.imp id fun ⟨g, cap, cur, h1, h2, h3⟩ => ⟨g, cap, cur, h1, Nat.le_trans hb h2, h3⟩⟩
/-! ### in plain words -/
def refV (x : Option (Int × Nat)) : Int × Int := match x with | some p => (p.1, (p.2 : Int)) | none => (-1, -1)
def refL (N : Nat) (s : Sta) : List (Int × Int) := (List.range N).map fun j => refV (s j)
theorem refL_length (N : Nat) (s : Sta) : (refL N s).length = N := by simp [refL]
theorem refL_get {N : Nat} {s : Sta} {j : Nat} (hj : j < N) : (refL N s)[j]? = some (refV (s j)) := by simp [refL, hj]
def partL (W : Wood) (N : Nat) (s : Sta) (r j : Nat) : List (Int × Int) := (List.range N).map fun k => refV (if k < j then grow W s r k else s k)
theorem partL_length (W : Wood) (N : Nat) (s : Sta) (r j : Nat) : (partL W N s r j).length = N := by simp [partL]
theorem partL_get {W : Wood} {N : Nat} {s : Sta} {r j k : Nat} (hk : k < N) : (partL W N s r j)[k]? = some (refV (if k < j then grow W s r k else s k)) := by simp [partL, hk]
theorem partL_zero (W : Wood) (N : Nat) (s : Sta) (r : Nat) : partL W N s r 0 = refL N s := by
  unfold partL refL
  exact List.map_congr_left fun k _ => by rw [if_neg (by omega)]
theorem partL_all (W : Wood) (N : Nat) (s : Sta) (r : Nat) : partL W N s r N = refL N (grow W s r) := by
  unfold partL refL
  exact List.map_congr_left fun k hk => by rw [if_pos (List.mem_range.1 hk)]
theorem partL_same {W : Wood} {N : Nat} {s : Sta} {r j : Nat} (h : grow W s r j = s j) : partL W N s r (j + 1) = partL W N s r j := by
  unfold partL
  refine List.map_congr_left fun k _ => ?_
  by_cases e : k = j
  · subst e; rw [if_pos (by omega), if_neg (by omega), h]
  · by_cases hl : k < j
    · rw [if_pos (by omega), if_pos hl]
    · rw [if_neg (by omega), if_neg hl]
theorem partL_put {W : Wood} {N : Nat} {s : Sta} {r j : Nat} (hj : j < N) : partL W N s r (j + 1) = (partL W N s r j).set j (refV (grow W s r j)) := by
  apply List.ext_getElem?
  intro k
  by_cases hk : k < N
  · rw [partL_get hk, List.getElem?_set, partL_length]
    by_cases e : j = k
    · subst e; rw [if_pos (by omega), if_pos rfl, if_pos hj]
    · rw [if_neg e, partL_get hk]
      by_cases hl : k < j
      · rw [if_pos (by omega), if_pos hl]
      · rw [if_neg (by omega), if_neg hl]
  · rw [List.getElem?_eq_none (by rw [partL_length]; omega), List.getElem?_eq_none (by rw [List.length_set, partL_length]; omega)]
/-- who comes first -/
def cnd (W : Wood) (s : Sta) (r j : Nat) (i : Nat) : Bool := rkOf s (W.now i) == some r && W.well i j
theorem seek_cnd (W : Wood) (s : Sta) (r j : Nat) : seek W s r j = (List.range W.M).find? (cnd W s r j) := rfl
theorem find_range {p : Nat → Bool} {k M : Nat} (h : (List.range k).find? p = none) (hk : p k = true) (hM : k < M) : (List.range M).find? p = some k := by
  induction M with
  | zero => omega
  | succ M ih =>
    rw [List.range_succ, List.find?_append]
    by_cases e : k = M
    · subst e; rw [h]; simp [hk]
    · rw [ih (by omega)]; rfl
theorem find_next {p : Nat → Bool} {k : Nat} (h : (List.range k).find? p = none) (hk : p k = false) : (List.range (k + 1)).find? p = none := by
  rw [List.range_succ, List.find?_append, h]; simp [hk]
theorem refL_out {N : Nat} {s : Sta} (h : ∀ j, j < N → ∃ x, s j = some x) : refL N s = outL N s := by
  unfold refL outL
  refine List.map_congr_left fun j hj => ?_
  obtain ⟨x, hx⟩ := h j (List.mem_range.1 hj)
  rw [hx]; rfl
theorem refL_bd {N : Nat} {s : Sta} (h : ∀ j x, s j = some x → -1 ≤ x.1 ∧ x.1 ≤ 1000 ∧ x.2 ≤ 1000) : ∀ p, p ∈ refL N s → (-9223372036854775808 ≤ p.1 ∧ p.1 ≤ 9223372036854775807) ∧ -9223372036854775808 ≤ p.2 ∧ p.2 ≤ 9223372036854775807 := by
  intro p hp
  obtain ⟨j, _, rfl⟩ := List.mem_map.1 hp
  unfold refV
  cases hs : s j with
  | none => exact ⟨⟨by simp, by simp⟩, by simp, by simp⟩
  | some x => have := h j x hs; exact ⟨⟨by show -9223372036854775808 ≤ x.1; omega, by show x.1 ≤ 9223372036854775807; omega⟩, by show -9223372036854775808 ≤ (x.2 : Int); omega, by show (x.2 : Int) ≤ 9223372036854775807; omega⟩
/-- how far ahead a bidder is -/
def ahd (s : Sta) (x : Int) : Int := if x = -1 then 0 else (refV (s x.toNat)).2
theorem cnd_ahd {m : Mkt} {o : Outc} {s : Sta} {r k i : Nat} {x : Int} (h : o.has[i]? = some x) : cnd (woodOf m o) s r k i = (decide (ahd s x = (r : Int)) && wellB m o i k) := by
  unfold cnd
  show (rkOf s (nowOf o i) == some r && wellB m o i k) = _
  congr 1
  unfold nowOf ahd
  rw [getD_at h]
  by_cases e : x = -1
  · rw [if_pos e, if_pos e]
    show (some 0 == some r) = _
    by_cases e2 : r = 0
    · subst e2; rfl
    · rw [decide_eq_false (by omega)]
      simp; omega
  · rw [if_neg e, if_neg e]
    show ((s x.toNat).map (·.2) == some r) = _
    cases hs : s x.toNat with
    | none =>
      rw [decide_eq_false (by show ¬ ((-1 : Int) = r); omega)]; rfl
    | some y =>
      by_cases e2 : y.2 = r
      · rw [decide_eq_true (by show (y.2 : Int) = r; omega)]; simp [e2]
      · rw [decide_eq_false (by show ¬ ((y.2 : Int) = r); omega)]; simp [e2]
/-- the search for who comes first: not yet, or found -/
def At4 (W : Wood) (N : Nat) (s : Sta) (r k i : Nat) (l : List (Int × Int)) : Prop := ((List.range i).find? (cnd W s r k) = none ∧ l = partL W N s r k) ∨ (∃ i0, seek W s r k = some i0 ∧ l = (partL W N s r k).set k ((i0 : Int), (r : Int) + 1))
theorem At4.start (W : Wood) (N : Nat) (s : Sta) (r k : Nat) : At4 W N s r k 0 (partL W N s r k) := .inl ⟨rfl, rfl⟩
theorem At4.length {W : Wood} {N : Nat} {s : Sta} {r k i : Nat} {l : List (Int × Int)} (h : At4 W N s r k i l) : l.length = N := by
  rcases h with ⟨_, rfl⟩ | ⟨i0, _, rfl⟩
  · exact partL_length _ _ _ _ _
  · rw [List.length_set]; exact partL_length _ _ _ _ _
theorem At4.done {W : Wood} {N : Nat} {s : Sta} {r k : Nat} {i0 : Nat} (hs : s k = none) (hk : k < N) (h : seek W s r k = some i0) : (partL W N s r k).set k ((i0 : Int), (r : Int) + 1) = partL W N s r (k + 1) := by
  rw [partL_put hk, grow_none hs, h]
  show _ = (partL W N s r k).set k ((i0 : Int), ((r + 1 : Nat) : Int))
  push_cast; rfl
theorem At4.nobody {W : Wood} {N : Nat} {s : Sta} {r k : Nat} (hs : s k = none) (h : seek W s r k = none) : partL W N s r k = partL W N s r (k + 1) := by
  rw [partL_same]
  rw [grow_none hs, h, hs]; rfl
end Go.Proofs.YtkddkkcfpnndlaaDoor
