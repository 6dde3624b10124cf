/- Walks: salesroomlaw01.TwinInts, TwinIntLists: twins in new memory, which may be written. Walks: salesroomlaw01.TwinIntLists. Twins of lists, of a market: what a write leaves, and how they are read. -/
import Derived.Test.YtbnjeegicbffeaaGreatG07
import Derived.Test.YtbnjeegicbffeaaGreatG19
import Derived.Test.YtbnjeegicbffeaaGreatG24
/- Walks: salesroomlaw01.TwinInts, TwinIntLists: twins in new memory, which may be written. -/
namespace Go.Proofs.YtbnjeegicbffeaaGreat
open Go.RowKit

/-- block B begins with these -/
def Tab (w : World) (B : Nat) (T : TypeId) (vals : List Value) : Prop := ∃ cur, w.heap[B]? = some (.cells cur T (0, 0)) ∧ vals.length ≤ cur.size ∧ cur.toList.take vals.length = vals

theorem Tab.cell {w : World} {B : Nat} {T : TypeId} {vals : List Value} (h : Tab w B T vals) {k : Nat} {v : Value} (hx : vals[k]? = some v) : w.cell? ⟨B, k, none⟩ = some v := by
  obtain ⟨cur, h1, h2, h3⟩ := h
  have hk : k < vals.length := (List.getElem?_eq_some_iff.1 hx).1
  rw [cell_of_row w B k cur T _ h1]
  have h4 : (cur.toList.take vals.length)[k]? = some v := by rw [h3]; exact hx
  rw [List.getElem?_take_of_lt hk] at h4
  simpa using h4
theorem Tab.frozen {w : World} {B : Nat} {T : TypeId} {vals : List Value} (h : Tab w B T vals) (k : Nat) : w.frozen? ⟨B, k, none⟩ = false := by
  obtain ⟨cur, h1, _⟩ := h
  exact frozen_of_row w B k cur T h1
theorem Tab.lt {w : World} {B : Nat} {T : TypeId} {vals : List Value} (h : Tab w B T vals) : B < w.heap.size := by
  obtain ⟨cur, h1, _⟩ := h
  rcases Nat.lt_or_ge B w.heap.size with h2 | h2
  · exact h2
  · rw [Array.getElem?_eq_none h2] at h1; cases h1
theorem Tab.set {w : World} {B : Nat} {T : TypeId} {vals : List Value} (h : Tab w B T vals) (k : Nat) (v : Value) : Tab (w.setCell ⟨B, k, none⟩ v) B T (vals.set k v) := by
  obtain ⟨cur, h1, h2, h3⟩ := h
  refine ⟨cur.setIfInBounds k v, by rw [heap_setCell_same w B k cur T _ h1], by simpa using h2, ?_⟩
  rw [Array.toList_setIfInBounds, List.length_set]
  conv => rhs; rw [← h3]
  rw [List.take_set]
theorem Tab.other {w : World} {B : Nat} {T : TypeId} {vals : List Value} (h : Tab w B T vals) {a : Addr} (ha : B ≠ a.block) (v : Value) : Tab (w.setCell a v) B T vals := by
  obtain ⟨cur, h1, h2⟩ := h
  exact ⟨cur, by rw [heap_setCell_other w a B v ha]; exact h1, h2⟩
theorem Tab.below {w w' : World} {B B' : Nat} {T : TypeId} {vals : List Value} (h : Tab w B T vals) (hb : Below B' w w') (hB : B < B') : Tab w' B T vals := by
  obtain ⟨cur, h1, h2⟩ := h
  exact ⟨cur, by rw [hb.block B hB]; exact h1, h2⟩
theorem Tab.drew {w : World} {B : Nat} {T : TypeId} {vals : List Value} (h : Tab w B T vals) : Tab w.drew B T vals := h
theorem Tab.grown {w w' : World} {B : Nat} {T : TypeId} {vals : List Value} {row : Option Nat} (h : Tab w B T vals) (hg : w.grownBy w' row) (hne : row ≠ some B) : Tab w' B T vals := by
  have hlt := h.lt
  obtain ⟨cur, h1, h2⟩ := h
  exact ⟨cur, by rw [hg.block B hlt (fun e => hne e.symm)]; exact h1, h2⟩

/-- ints in block B -/
def TabI (w : World) (B : Nat) (xs : List Int) : Prop := Tab w B 3 (xs.map (Value.int .i64))
theorem TabI.ints {w : World} {B c : Nat} {xs : List Int} (h : TabI w B xs) (hc : xs.length ≤ c) (hbig : xs.length ≤ 4611686018427387904) (hbd : ∀ x, x ∈ xs → -9223372036854775808 ≤ x ∧ x ≤ 9223372036854775807) : Ints w (some ⟨B, 0, none⟩) xs.length c xs :=
  ⟨rfl, hc, hbig, fun _ => ⟨_, _, rfl⟩, fun b o e k x hx => by cases e; rw [Nat.zero_add]; exact Tab.cell h (by simp [hx]), hbd, fun e => by cases e⟩
theorem TabI.set {w : World} {B : Nat} {xs : List Int} (h : TabI w B xs) (k : Nat) (v : Int) : TabI (w.setCell ⟨B, k, none⟩ (.int .i64 v)) B (xs.set k v) := by
  unfold TabI; rw [List.map_set]; exact Tab.set h k _

theorem Own.tab {w : World} {base g n c : Nat} {xs : List Int} (h : Own w base (.slice (some ⟨g, 0, none⟩) n c) xs) : TabI w g xs ∧ base ≤ g := by
  obtain ⟨h1, h2⟩ := h
  rcases h2 with ⟨e, _⟩ | ⟨g', cap, cur, e, hg, hh, hc, hm, hs, ht⟩
  · cases e
  · cases e
    refine ⟨⟨cur, hh, by rw [List.length_map]; omega, ?_⟩, hg⟩
    rw [List.length_map]; simpa using ht
theorem Tab.head {w : World} {B : Nat} {T : TypeId} {vals more : List Value} (h : Tab w B T (vals ++ more)) : Tab w B T vals := by
  obtain ⟨cur, h1, h2, h3⟩ := h
  rw [List.length_append] at h2 h3
  refine ⟨cur, h1, by omega, ?_⟩
  have := congrArg (List.take vals.length) h3
  rw [List.take_take, Nat.min_eq_left (by omega), List.take_left] at this
  exact this

/-- 'make([]int, 0, n)' -/
theorem mkIntsCap (c : Nat) (hc : c ≤ 1000000) (w : World) : (Instr.makeSlice 23 (.int .i64 0) (.int .i64 (c : Int))).run Tryz.prog w = .ok (.slice (some ⟨w.heap.size, 0, none⟩) 0 c) (w.alloc (.cells (iarr (List.replicate c 0)) 3)) := by
  obtain ⟨i0, hi, hz0, hz1, hz2⟩ := info_parts infoInt
  have h := run_make (P := Tryz.prog) w 23 3 i0 _ Tryz.underlying23 hi hz0 .i64 .i64 0 c (by omega) (by omega) (by rw [hz2]; omega) (by omega)
  rw [hz1] at h
  have e : madeCells (Value.int .i64 0).cells (c * 1) = iarr (List.replicate c 0) := by
    apply Array.ext'
    rw [show (Value.int .i64 0).cells = #[.int .i64 0] from rfl, toList_madeCells_one]
    simp [iarr]
  rw [Int.toNat_natCast, e] at h
  exact h

/-- a twin of a list of ints -/
def Twin (n : Nat) (xs : List Int) (w : World) (e : Ending) (w' : World) : Prop := ∃ g c, e = .returned (.slice (some ⟨g, 0, none⟩) n c) ∧ n ≤ c ∧ TabI w' g xs ∧ w.heap.size ≤ g ∧ Below w.heap.size w w'

set_option maxHeartbeats 1000000 in
theorem twinInts_any (a : Option Addr) (n c : Nat) (xs : List Int) (w : World) (h : Ints w a n c xs) (hn : n ≤ 100000) :
    Calls Tryz.prog 52 #[.slice a n c] w (Twin n xs w) := by
  have HI := Lib.hid h; clear h
  have hmk := mkIntsCap (n + 1) (by omega)
  have e1 : (((n + 1 : Nat)) : Int) = (n : Int) + 1 := by omega
  rw [e1] at hmk
  clear e1
  have ho : Own (w.alloc (.cells (iarr (List.replicate (n + 1) 0)) 3)) w.heap.size (.slice (some ⟨w.heap.size, 0, none⟩) 0 (n + 1)) [] :=
    ⟨rfl, .inr ⟨w.heap.size, n + 1, iarr (List.replicate (n + 1) 0), rfl, Nat.le_refl _, heap_alloc_new w _, Nat.zero_le _, by unfold maxLen; omega, by simp [iarr_size], by simp⟩⟩
  have HO := Lib.hid ho; clear ho
  have hb : Below w.heap.size w (w.alloc (.cells (iarr (List.replicate (n + 1) 0)) 3)) := (Below.refl _ _).alloc (Nat.le_refl _) _
  have HB := Lib.hid hb; clear hb
  go_enter Tryz.func52, Tryz.ntmps52
  go_wp2_with fail
  go_loopg [3, 4] n (fun g' s3 s4 wr => ∃ (k g c : Nat), k + g' = n ∧ s4 = .int .i64 k ∧ s3 = .slice (some ⟨g, 0, none⟩) k c ∧ Own wr w.heap.size (.slice (some ⟨g, 0, none⟩) k c) (xs.take k) ∧ Below w.heap.size w wr)
  case atStart => exact ⟨0, _, _, by omega, rfl, rfl, HO.out, HB.out⟩
  case round =>
    obtain ⟨k, g, c, hk, rfl, rfl, hO, hB⟩ := hrel
    have HK := Lib.hid hk; clear hk
    have HO2 := Lib.hid hO; clear hO
    have hbs := hB.size
    by_cases hlt : k < n
    · obtain ⟨x, hx, _⟩ := HI.out.get hlt
      obtain ⟨b, o, rfl⟩ := HI.out.addr (by omega)
      have cx := (HI.out.below hB (Nat.le_refl _)).cell b o rfl k x hx
      have HB2 := Lib.hid hB; clear hB
      have hl : (xs.take k).length = k := by simp; have := HI.out.len; omega
      obtain ⟨zs, hzs⟩ : ∃ zs, zs = xs.take k := ⟨_, rfl⟩
      rw [← hzs] at hl HO2
      have HL := Lib.hid hl; clear hl
      have HZ := Lib.hid hzs; clear hzs
      have HX := Lib.hid hx; clear hx
      go_wp2_with (at_builtin; refine app1 _ rfl _ _ rfl w.heap.size _ zs rfl (HO2.out.alloc _) wr.heap.size 0 1 x rfl (by simp [go_sem]) (by rw [HL.out]; omega) (by simp; omega) ?_)
      intro g' cap' w' hown' hgr' hb'
      rw [HL.out] at hown' ⊢
      have HO3 := Lib.hid hown'; clear hown'
      have HB3 := Lib.hid ((HB2.out.alloc HB2.out.size (.cells #[.int .i64 x] 3)).trans hb'); clear hb' hgr'
      go_wp2_with fail
      go_roundg (gk - 1)
      case measure => have := HK.out; omega
      case rel => exact ⟨k + 1, g', cap', by have := HK.out; omega, by go_num, rfl, by rw [List.take_add_one, HX.out, ← HZ.out]; exact HO3.out, HB3.out⟩
    · obtain rfl : k = n := by have := HK.out; omega
      rw [List.take_of_length_le (by have := HI.out.len; omega)] at HO2
      have hl := HI.out.len
      have HL := Lib.hid hl; clear hl
      have HB2 := Lib.hid hB; clear hB
      go_wp2_with (at_builtin; refine app1 _ rfl _ _ rfl w.heap.size _ xs rfl (HO2.out.alloc _) wr.heap.size 0 1 77 rfl (by simp [go_sem]) (by rw [HL.out]; omega) (by simp; omega) ?_)
      intro g' cap' w' hown' hgr' hb'
      rw [HL.out] at hown' ⊢
      obtain ⟨ht, hg⟩ := hown'.tab
      have hcap : k + 1 ≤ cap' ∧ cap' ≤ maxLen := by
        rcases hown'.2 with ⟨e, _⟩ | ⟨g2, cap, cur, e, _, _, hle, hm, _⟩
        · cases e
        · obtain ⟨_, _, e3⟩ := Value.slice.inj e
          rw [List.length_append, HL.out] at hle
          rw [e3]
          exact ⟨hle, hm⟩
      have HT := Lib.hid ht; clear ht
      have HB3 := Lib.hid ((HB2.out.alloc HB2.out.size (.cells #[.int .i64 77] 3)).trans hb'); clear hb' hgr' hown'
      obtain ⟨hc1, hc2⟩ := hcap
      unfold maxLen at hc2
      have hc3 : k ≤ cap' := by omega
      go_wp2_with fail
      go_ret
      refine ⟨g', cap', rfl, by omega, ?_, hg, HB3.out⟩
      have := HT.out
      unfold TabI at this ⊢
      rw [List.map_append] at this
      exact this.head
end Go.Proofs.YtbnjeegicbffeaaGreat

/- Walks: salesroomlaw01.TwinIntLists. -/
namespace Go.Proofs.YtbnjeegicbffeaaGreat
open Go.RowKit

/-- 'append(s, x)' at lists of ints, as values -/
theorem appV1 {ops : Array Oper} {rest : List Oper} {o : Oper} {a : Act} {Q : Exit → Act → World → Prop} (w : World) (hgd : o.guard = none) (s x : Operand)
    (ho : o.op = .call { callee := .builtin .append, args := #[s, x], argTypes := #[26, 26] })
    (base : Nat) (v : Value) (n : Nat) (vals : List Value) (hs : a.eval s = v) (hown : w.ownsRow base 23 1 v n vals) (b off c : Nat) (la : Option Addr) (ln lc : Nat) (hx : a.eval x = .slice (some ⟨b, off, none⟩) 1 c)
    (hc : w.cell? ⟨b, off, none⟩ = some (.slice la ln lc)) (hlen : n < 1000000000000) (hbase : base ≤ w.heap.size)
    (h : ∀ g cap w', w'.ownsRow base 23 1 (.slice (some ⟨g, 0, none⟩) (n + 1) cap) (n + 1) (vals ++ [.slice la ln lc]) → w.grownBy w' v.ownBlock → Below base w w' → (v.ownBlock = some g ∨ g = w.heap.size) → wpList Tryz.prog ops Q rest (a.put o.dst (.slice (some ⟨g, 0, none⟩) (n + 1) cap)) w') : wpList Tryz.prog ops Q (o :: rest) a w := by
  obtain ⟨i0, hi, hz0, hz1, hz2⟩ := info_parts infoInts
  refine wpList_append_own_at w hgd s x _ ho base 23 i0 _ 1 24 Tryz.underlying26 hi hz0 hz1 hz2 rfl (by decide) v n _ hs hown ⟨b, off, none⟩ 1 c [.slice la ln lc] hx rfl ?_ ?_ ?_ ?_ hbase ?_
  · intro j u hu
    cases j with
    | zero => simp at hu; subst hu; simpa [Addr.add] using hc
    | succ j => simp at hu
  · intro u hu; simp at hu; subst hu; rfl
  · unfold maxLen; omega
  · omega
  · intro v' w' hown' hg hnil hat
    have hne : v' ≠ .slice none 0 0 := fun e => by have := (hnil.1 e).2; omega
    rcases hown'.2 with ⟨e, _⟩ | ⟨g, cap, cur, hv, r⟩
    · exact absurd e hne
    · subst hv
      refine h g cap w' hown' hg ((Below.refl base w).grown hg hbase fun k hk => (World.ownsRow.lt hown k hk).1) ?_
      rcases hat with e | e
      · exact .inl e.symm
      · exact .inr (Option.some.inj e)

/-- 'make([][]int, 0, n)' -/
theorem mkRowsCap (c : Nat) (hc : c ≤ 1000000) (w : World) : (Instr.makeSlice 26 (.int .i64 0) (.int .i64 (c : Int))).run Tryz.prog w = .ok (.slice (some ⟨w.heap.size, 0, none⟩) 0 c) (w.alloc (.cells (List.replicate c (Value.slice none 0 0)).toArray 23)) := by
  obtain ⟨i0, hi, hz0, hz1, hz2⟩ := info_parts infoInts
  have h := run_make (P := Tryz.prog) w 26 23 i0 _ Tryz.underlying26 hi hz0 .i64 .i64 0 c (by omega) (by omega) (by rw [hz2]; omega) (by omega)
  rw [hz1] at h
  have e : madeCells (Value.slice none 0 0).cells (c * 1) = (List.replicate c (Value.slice none 0 0)).toArray := by
    apply Array.ext'
    rw [show (Value.slice none 0 0).cells = #[.slice none 0 0] from rfl, toList_madeCells_one]
    simp
  rw [Int.toNat_natCast, e] at h
  exact h

theorem owns_tab {w : World} {base g n c : Nat} {vals : List Value} (h : w.ownsRow base 23 1 (.slice (some ⟨g, 0, none⟩) n c) n vals) : Tab w g 23 vals ∧ base ≤ g ∧ vals.length = n ∧ n ≤ c ∧ c ≤ maxLen := by
  obtain ⟨h1, h2⟩ := h
  rcases h2 with ⟨e, _⟩ | ⟨g', cap, cur, e, hg, hh, hc, hm, hs, ht⟩
  · cases e
  · obtain ⟨e1, _, e3⟩ := Value.slice.inj e
    cases e1
    subst e3
    exact ⟨⟨cur, hh, by omega, by rw [h1]; simpa using ht⟩, hg, by omega, hc, hm⟩

/-- twins of lists: their blocks are gs, each one's own -/
structure TwinsOf (w : World) (base B : Nat) (vals : List Value) (gs : List Nat) (xss : List (List Int)) : Prop where
  len : gs.length = xss.length
  nodup : gs.Nodup
  at' : ∀ g, g ∈ gs → base ≤ g ∧ g ≠ B ∧ g < w.heap.size
  row : ∀ (i : Nat) (xs : List Int) (g : Nat), xss[i]? = some xs → gs[i]? = some g → ∃ c, vals[i]? = some (Value.slice (some ⟨g, 0, none⟩) xs.length c) ∧ xs.length ≤ c ∧ TabI w g xs

theorem TwinsOf.below {w w' : World} {base B B' : Nat} {vals : List Value} {gs : List Nat} {xss : List (List Int)} (h : TwinsOf w base B vals gs xss) (hb : Below B' w w') (hB : w.heap.size ≤ B') : TwinsOf w' base B vals gs xss :=
  ⟨h.len, h.nodup, fun g hg => by have := h.at' g hg; have := hb.size; omega, fun i xs g h1 h2 => by
    obtain ⟨c, e1, e2, e3⟩ := h.row i xs g h1 h2
    exact ⟨c, e1, e2, Tab.below e3 hb (by have := (h.at' g (List.mem_of_getElem? h2)).2.2; omega)⟩⟩

/-- one more row, behind an append -/
theorem TwinsOf.snoc {w w' : World} {base B B' : Nat} {vals : List Value} {gs : List Nat} {xss : List (List Int)} (h : TwinsOf w base B vals gs xss) (hvl : vals.length = xss.length) {v : Value} (hv : v.ownBlock = some B) (hg : w.grownBy w' v.ownBlock) (hB' : B = B' ∨ B' = w.heap.size)
    {g c : Nat} {xs : List Int} (hgb : base ≤ g) (hne : g ≠ B) (hlt : g < w.heap.size) (hnew : g ∉ gs) (hc : xs.length ≤ c) (ht : TabI w g xs) : TwinsOf w' base B' (vals ++ [.slice (some ⟨g, 0, none⟩) xs.length c]) (gs ++ [g]) (xss ++ [xs]) := by
  have hbB : ∀ x, x ≠ B → x < w.heap.size → x ≠ B' := fun x h1 h2 => by rcases hB' with e | e <;> omega
  have hsz := hg.size
  refine ⟨by simp [h.len], ?_, fun x hx => ?_, fun i ys g' h1 h2 => ?_⟩
  · rw [List.nodup_append]
    exact ⟨h.nodup, by simp, fun a ha b hb e => by simp at hb; subst hb; exact hnew (e ▸ ha)⟩
  · rcases List.mem_append.1 hx with hx | hx
    · obtain ⟨a1, a2, a3⟩ := h.at' x hx
      exact ⟨a1, hbB x a2 a3, by omega⟩
    · simp at hx; subst hx
      exact ⟨hgb, hbB x hne hlt, by omega⟩
  · by_cases hi : i < xss.length
    · rw [List.getElem?_append_left hi] at h1
      rw [List.getElem?_append_left (by rw [h.len]; exact hi)] at h2
      obtain ⟨c', e1, e2, e3⟩ := h.row i ys g' h1 h2
      obtain ⟨a1, a2, a3⟩ := h.at' g' (List.mem_of_getElem? h2)
      exact ⟨c', by rw [List.getElem?_append_left (by omega)]; exact e1, e2, Tab.grown e3 hg (by rw [hv]; intro e; exact a2 (Option.some.inj e).symm)⟩
    · have hil : i = xss.length := by have := (List.getElem?_eq_some_iff.1 h1).1; simp at this; omega
      subst hil
      rw [List.getElem?_append_right (Nat.le_refl _)] at h1
      rw [List.getElem?_append_right (by rw [h.len]; exact Nat.le_refl _), h.len] at h2
      simp at h1 h2
      subst h1; subst h2
      exact ⟨c, by rw [List.getElem?_append_right (by omega), hvl]; simp, hc, Tab.grown ht hg (by rw [hv]; intro e; exact hne (Option.some.inj e).symm)⟩

/-- a twin of a list of lists -/
def TwinL (n : Nat) (xss : List (List Int)) (w : World) (e : Ending) (w' : World) : Prop :=
  ∃ B c vals gs, e = .returned (.slice (some ⟨B, 0, none⟩) n c) ∧ n ≤ c ∧ Tab w' B 23 vals ∧ vals.length = n ∧ w.heap.size ≤ B ∧ TwinsOf w' w.heap.size B vals gs xss ∧ Below w.heap.size w w'

set_option maxHeartbeats 1000000 in
theorem twinLists_any (a : Option Addr) (n c : Nat) (xss : List (List Int)) (w : World) (h : Rows w a n c xss) (hn : n ≤ 100000) (hx : ∀ xs, xs ∈ xss → xs.length ≤ 100000) :
    Calls Tryz.prog 53 #[.slice a n c] w (TwinL n xss w) := by
  have HI := Lib.hid h; clear h
  have HX8 := Lib.hid hx; clear hx
  have hmk := mkRowsCap (n + 1) (by omega)
  have e1 : (((n + 1 : Nat)) : Int) = (n : Int) + 1 := by omega
  rw [e1] at hmk
  clear e1
  have ho : (w.alloc (.cells (List.replicate (n + 1) (Value.slice none 0 0)).toArray 23)).ownsRow w.heap.size 23 1 (.slice (some ⟨w.heap.size, 0, none⟩) 0 (n + 1)) 0 [] :=
    ⟨rfl, .inr ⟨w.heap.size, n + 1, (List.replicate (n + 1) (Value.slice none 0 0)).toArray, rfl, Nat.le_refl _, heap_alloc_new w _, Nat.zero_le _, by unfold maxLen; omega, by simp, by simp⟩⟩
  have HO := Lib.hid ho; clear ho
  have hb : Below w.heap.size w (w.alloc (.cells (List.replicate (n + 1) (Value.slice none 0 0)).toArray 23)) := (Below.refl _ _).alloc (Nat.le_refl _) _
  have HB := Lib.hid hb; clear hb
  go_enter Tryz.func53, Tryz.ntmps53
  go_wp2_with fail
  go_loopg [3, 4] n (fun g' s3 s4 wr => ∃ (k g c : Nat) (vals : List Value) (gs : List Nat), k + g' = n ∧ s4 = .int .i64 k ∧ s3 = .slice (some ⟨g, 0, none⟩) k c ∧ wr.ownsRow w.heap.size 23 1 (.slice (some ⟨g, 0, none⟩) k c) k vals ∧ TwinsOf wr w.heap.size g vals gs (xss.take k) ∧ Below w.heap.size w wr)
  case atStart => exact ⟨0, _, _, [], [], by omega, rfl, rfl, HO.out, ⟨by simp, List.nodup_nil, (fun g hg => by cases hg), fun i xs g h1 _ => by simp at h1⟩, HB.out⟩
  case round =>
    obtain ⟨k, g, c, vals, gs, hk, rfl, rfl, hO, hT, hB⟩ := hrel
    have HK := Lib.hid hk; clear hk
    have hbs := hB.size
    obtain ⟨htab, hgb, hvl, _, _⟩ := owns_tab hO
    have hglt := htab.lt
    clear htab
    by_cases hlt : k < n
    · obtain ⟨xs, hx⟩ := HI.out.get hlt
      obtain ⟨b, o, rfl⟩ := HI.out.addr (by omega)
      obtain ⟨la, ln, lc, cx, hli⟩ := (HI.out.below hB (Nat.le_refl _)).cell b o rfl k xs hx
      have hxl : ln ≤ 100000 := by have := HX8.out xs (List.mem_of_getElem? hx); have := hli.len; omega
      have HC := Lib.hid (twinInts_any la ln lc xs wr hli hxl)
      have hln := hli.len
      have HB2 := Lib.hid hB; clear hB
      have HO2 := Lib.hid hO; clear hO
      have HT2 := Lib.hid hT; clear hT
      have HX := Lib.hid hx; clear hx
      clear hli
      go_wp2_with fail
      refine HC.out.mono ?_
      rintro e w1 ⟨g1, c1, rfl, hc1, ht1, hg1, hb1⟩
      clear HC
      have ho1 : w1.ownsRow w.heap.size 23 1 (.slice (some ⟨g, 0, none⟩) k c) k vals := by
        obtain ⟨r1, r2⟩ := HO2.out
        refine ⟨r1, ?_⟩
        rcases r2 with ⟨e, _⟩ | ⟨g', cap, cur, e, hg, hh, r⟩
        · cases e
        · have e' := e
          cases e'
          exact .inr ⟨g, c, cur, rfl, hg, by rw [hb1.block g hglt]; exact hh, r⟩
      have ht2 := HT2.out.below hb1 (Nat.le_refl _)
      have hnew : g1 ∉ gs := fun hm => by have := (HT2.out.at' g1 hm).2.2; omega
      have hg1lt := Tab.lt ht1
      have HB3 := Lib.hid (HB2.out.trans (hb1.mono HB2.out.size))
      have HO3 := Lib.hid ho1; clear ho1
      have HT3 := Lib.hid ht2; clear ht2
      have HT1 := Lib.hid ht1; clear ht1
      have hsz1 := hb1.size
      clear hb1
      go_wp2_with (at_builtin; refine appV1 _ rfl _ _ rfl w.heap.size _ k vals rfl (World.ownsRow.alloc HO3.out _) w1.heap.size 0 1 (some ⟨g1, 0, none⟩) ln c1 rfl (by simp [go_sem]) (by omega) (by simp; omega) ?_)
      intro g' cap' w' hown' hgr' hb' hat'
      have hal : Below w1.heap.size w1 (w1.alloc (.cells #[.slice (some ⟨g1, 0, none⟩) ln c1] 23)) := (Below.refl _ _).alloc (Nat.le_refl _) _
      have hsn := (HT3.out.below hal (Nat.le_refl _)).snoc (B' := g') (g := g1) (c := c1) (xs := xs) (by rw [hvl]; simp; have := HI.out.len; omega) (v := .slice (some ⟨g, 0, none⟩) k c) rfl hgr' (hat'.imp (fun e => Option.some.inj e) (fun e => by rw [e]; simp)) (by omega) (by omega) (by simp; omega) hnew (by omega) (Tab.below HT1.out hal (by omega))
      rw [hln] at hsn
      have HSN := Lib.hid hsn; clear hsn
      have HO4 := Lib.hid hown'; clear hown'
      have HB4 := Lib.hid ((HB3.out.alloc HB3.out.size (.cells #[.slice (some ⟨g1, 0, none⟩) ln c1] 23)).trans hb'); clear hb' hgr' hat' hal
      go_wp2_with fail
      go_roundg (gk - 1)
      case measure => have := HK.out; omega
      case rel => exact ⟨k + 1, g', cap', _, _, by have := HK.out; omega, by go_num, rfl, HO4.out, by rw [List.take_add_one, HX.out]; exact HSN.out, HB4.out⟩
    · obtain rfl : k = n := by have := HK.out; omega
      rw [List.take_of_length_le (by have := HI.out.len; omega)] at hT
      have HB2 := Lib.hid hB; clear hB
      have HO2 := Lib.hid hO; clear hO
      have HT2 := Lib.hid hT; clear hT
      go_wp2_with (at_builtin; refine appV1 _ rfl _ _ rfl w.heap.size _ k vals rfl (World.ownsRow.alloc (World.ownsRow.alloc HO2.out _) _) (wr.heap.size + 1) 0 1 (some ⟨wr.heap.size, 0, none⟩) 1 1 rfl (by simp [go_sem]) (by omega) (by simp; omega) ?_)
      intro g' cap' w' hown' hgr' hb' hat'
      have hal : Below wr.heap.size wr ((wr.alloc (.cells #[.int .i64 77] 3)).alloc (.cells #[.slice (some ⟨wr.heap.size, 0, none⟩) 1 1] 23)) := ((Below.refl _ _).alloc (Nat.le_refl _) _).alloc (by simp) _
      have hT4 := HT2.out.below hal (Nat.le_refl _)
      obtain ⟨ht', hg', hvl', hcap1, hcap2⟩ := owns_tab hown'
      unfold maxLen at hcap2
      have hc3 : k ≤ cap' := by omega
      have hT5 : TwinsOf w' w.heap.size g' vals gs xss := by
        have hsz := hgr'.size
        simp at hsz
        refine ⟨hT4.len, hT4.nodup, fun x hx => ?_, fun i ys x h1 h2 => ?_⟩
        · obtain ⟨a1, a2, a3⟩ := HT2.out.at' x hx
          refine ⟨a1, ?_, by omega⟩
          rcases hat' with e | e
          · have := Option.some.inj e; simp at this; omega
          · omega
        · obtain ⟨c', e1, e2, e3⟩ := hT4.row i ys x h1 h2
          obtain ⟨a1, a2, a3⟩ := hT4.at' x (List.mem_of_getElem? h2)
          exact ⟨c', e1, e2, Tab.grown e3 hgr' (fun e => a2 (Option.some.inj e).symm)⟩
      have HT5 := Lib.hid hT5; clear hT5 hT4
      have HTT := Lib.hid ht'.head; clear ht'
      have HB4 := Lib.hid ((HB2.out.trans (hal.mono HB2.out.size)).trans hb'); clear hb' hgr' hat' hal hown'
      go_wp2_with fail
      go_ret
      exact ⟨g', cap', vals, gs, rfl, hc3, HTT.out, hvl, hg', HT5.out, HB4.out⟩
end Go.Proofs.YtbnjeegicbffeaaGreat

/- Twins of lists, of a market: what a write leaves, and how they are read. -/
namespace Go.Proofs.YtbnjeegicbffeaaGreat
open Go.RowKit Sale

/-- one entry of a twin's row is written -/
theorem TwinsOf.poke {w : World} {base B : Nat} {vals : List Value} {gs : List Nat} {xss : List (List Int)} (h : TwinsOf w base B vals gs xss) {i g : Nat} {xs : List Int} (hi : xss[i]? = some xs) (hg : gs[i]? = some g) (k : Nat) (v : Int) :
    TwinsOf (w.setCell ⟨g, k, none⟩ (.int .i64 v)) base B vals gs (xss.set i (xs.set k v)) := by
  refine ⟨by rw [List.length_set]; exact h.len, h.nodup, fun x hx => by simpa using h.at' x hx, fun j ys g' hj hg' => ?_⟩
  have hil := (List.getElem?_eq_some_iff.1 hi).1
  rw [List.getElem?_set] at hj
  by_cases e : i = j
  · subst e
    rw [if_pos rfl, if_pos hil] at hj
    cases hj
    have eg : g' = g := by rw [hg] at hg'; exact (Option.some.inj hg').symm
    subst eg
    obtain ⟨c, h1, h2, h3⟩ := h.row i xs g' hi hg
    exact ⟨c, by rw [List.length_set]; exact h1, by rw [List.length_set]; exact h2, TabI.set h3 k v⟩
  · rw [if_neg e] at hj
    obtain ⟨c, h1, h2, h3⟩ := h.row j ys g' hj hg'
    refine ⟨c, h1, h2, Tab.other h3 ?_ _⟩
    intro eg
    simp only at eg
    subst eg
    exact e ((List.getElem?_inj (List.getElem?_eq_some_iff.1 hg).1 h.nodup).1 (hg.trans hg'.symm))
/-- another block is written -/
theorem TwinsOf.other {w : World} {base B : Nat} {vals : List Value} {gs : List Nat} {xss : List (List Int)} (h : TwinsOf w base B vals gs xss) {a : Addr} (ha : a.block ∉ gs) (v : Value) : TwinsOf (w.setCell a v) base B vals gs xss :=
  ⟨h.len, h.nodup, fun x hx => by simpa using h.at' x hx, fun j ys g' hj hg' => by
    obtain ⟨c, h1, h2, h3⟩ := h.row j ys g' hj hg'
    exact ⟨c, h1, h2, Tab.other h3 (fun e => ha (e ▸ List.mem_of_getElem? hg')) _⟩⟩
theorem TwinsOf.rows {w : World} {base B n c : Nat} {vals : List Value} {gs : List Nat} {xss : List (List Int)} (h : TwinsOf w base B vals gs xss) (ht : Tab w B 23 vals) (hn : xss.length = n) (hc : n ≤ c) (hbig : n ≤ 100000)
    (hbd : ∀ xs, xs ∈ xss → xs.length ≤ 100000 ∧ ∀ x, x ∈ xs → -9223372036854775808 ≤ x ∧ x ≤ 9223372036854775807) : Rows w (some ⟨B, 0, none⟩) n c xss :=
  ⟨hn, hc, by omega, fun _ => ⟨_, _, rfl⟩, fun b o e j xs hj => by
    cases e
    have hjn := (List.getElem?_eq_some_iff.1 hj).1
    obtain ⟨g, hg⟩ : ∃ g, gs[j]? = some g := ⟨_, List.getElem?_eq_getElem (by rw [h.len]; exact hjn)⟩
    obtain ⟨c', h1, h2, h3⟩ := h.row j xs g hj hg
    have hb := hbd xs (List.mem_of_getElem? hj)
    exact ⟨_, _, c', by rw [Nat.zero_add]; exact ht.cell h1, h3.ints h2 (by omega) hb.2⟩⟩

/-- a market's twin: five regions of new memory, one behind the other -/
structure TwinMkt (w : World) (base s1 s2 g1 B g3 : Nat) (vals : List Value) (gs : List Nat) (m : Mkt) : Prop where
  res : TabI w g1 m.res
  tab : Tab w B 23 vals
  vlen : vals.length = m.bids.length
  rows : TwinsOf w s1 B vals gs m.bids
  ord : TabI w g3 m.ord
  b1 : base ≤ g1
  l1 : g1 < s1
  bB : s1 ≤ B
  lB : B < s2
  lg : ∀ g, g ∈ gs → g < s2
  l3 : s2 ≤ g3

theorem TwinMkt.below {w w' : World} {base s1 s2 g1 B g3 B' : Nat} {vals : List Value} {gs : List Nat} {m : Mkt} (h : TwinMkt w base s1 s2 g1 B g3 vals gs m) (hb : Below B' w w') (hB : w.heap.size ≤ B') : TwinMkt w' base s1 s2 g1 B g3 vals gs m :=
  ⟨Tab.below h.res hb (by have := Tab.lt h.res; omega), h.tab.below hb (by have := h.tab.lt; omega), h.vlen, h.rows.below hb hB, Tab.below h.ord hb (by have := Tab.lt h.ord; omega), h.b1, h.l1, h.bB, h.lB, h.lg, h.l3⟩

/-- bounds of what a market has, as it is read -/
structure MBd (m : Mkt) : Prop where
  res : m.res.length ≤ 100000 ∧ ∀ x, x ∈ m.res → -9223372036854775808 ≤ x ∧ x ≤ 9223372036854775807
  bids : m.bids.length ≤ 100000 ∧ ∀ xs, xs ∈ m.bids → xs.length ≤ 100000 ∧ ∀ x, x ∈ xs → -9223372036854775808 ≤ x ∧ x ≤ 9223372036854775807
  ord : m.ord.length ≤ 100000 ∧ ∀ x, x ∈ m.ord → -9223372036854775808 ≤ x ∧ x ≤ 9223372036854775807
theorem upTo_mem {m : Nat} {x : Int} (h : x ∈ upTo m) : 0 ≤ x ∧ x < (m : Int) := by
  unfold upTo at h
  obtain ⟨j, hj, rfl⟩ := List.mem_map.1 h
  have := List.mem_range.1 hj
  omega
theorem MOk.mbd {m : Mkt} (h : MOk m) : MBd m := by
  have h8 := h.n8
  have m8 := h.m8
  have hord := h.ord
  unfold isOrd at hord
  rw [List.isPerm_iff] at hord
  have hol : m.ord.length = m.bids.length := by rw [hord.length_eq]; simp [upTo]
  refine ⟨⟨by omega, fun x hx => by have := h.res x hx; omega⟩, ⟨by omega, fun xs hxs => ?_⟩, ⟨by omega, fun x hx => by have := upTo_mem (hord.mem_iff.1 hx); omega⟩⟩
  rcases h.bid xs hxs with rfl | ⟨h1, h2⟩
  · exact ⟨Nat.zero_le _, fun x hx => by cases hx⟩
  · exact ⟨by omega, fun x hx => by have := h2 x hx; omega⟩
theorem TwinMkt.mkt {w : World} {base s1 s2 g1 B g3 rn c1 bn cB on c3 : Nat} {vals : List Value} {gs : List Nat} {m : Mkt} (h : TwinMkt w base s1 s2 g1 B g3 vals gs m) (hm : MBd m) (h1 : m.res.length = rn) (h2 : m.bids.length = bn) (h3 : m.ord.length = on) (hc1 : rn ≤ c1) (hcB : bn ≤ cB) (hc3 : on ≤ c3) :
    MktAt w (some ⟨g1, 0, none⟩) (some ⟨B, 0, none⟩) (some ⟨g3, 0, none⟩) rn c1 bn cB on c3 m := by
  have a1 := hm.res.1
  have a3 := hm.ord.1
  refine ⟨?_, h.rows.rows h.tab h2 hcB (by have := hm.bids.1; omega) hm.bids.2, ?_⟩
  · have := TabI.ints h.res (c := c1) (by omega) (by omega) hm.res.2
    rw [h1] at this; exact this
  · have := TabI.ints h.ord (c := c3) (by omega) (by omega) hm.ord.2
    rw [h3] at this; exact this

/-! ### where nobody gains -/
theorem none_out {m : Mkt} (hm : MOk m) (h : ∀ i, i < m.bids.length → ∀ k, k < m.res.length → gi (gainsM m) i k < 0) : outM m = ⟨List.replicate m.bids.length (-1), m.res⟩ := by
  unfold outM
  rw [least_zero hm h]
  congr 1
  exact all_none (by rw [hasM_length]; simp) (has_zero hm h) (fun x hx => by simpa using (List.mem_replicate.1 hx).2)
/-- nobody bids -/
def noBids (m : Mkt) : Mkt := { m with bids := List.replicate m.bids.length [] }
theorem noBids_ok {m : Mkt} (h : MOk m) : MOk (noBids m) := by
  have hl : (noBids m).bids.length = m.bids.length := by simp [noBids]
  exact ⟨h.n1, h.n8, by rw [hl]; exact h.m1, by rw [hl]; exact h.m8, h.res, fun b hb => .inl (by simpa using (List.mem_replicate.1 hb).2), by rw [hl]; exact h.ord⟩
theorem noBids_out {m : Mkt} (h : MOk m) : outM (noBids m) = ⟨List.replicate m.bids.length (-1), m.res⟩ := by
  have hl : (noBids m).bids.length = m.bids.length := by simp [noBids]
  rw [none_out (noBids_ok h) (fun i hi k hk => ?_), hl]
  · rfl
  · rw [gi_bid hi hk, if_pos (by simp [noBids])]; omega
/-- all items cost more than anybody bids: the first j entries of a row -/
def lowTo (res bid : List Int) (t : Int) (j : Nat) : List Int := (List.range bid.length).map fun k => if k < j then min (bid.getD k 0) (res.getD k 0 - 1 - t) else bid.getD k 0
theorem lowTo_length (res bid : List Int) (t : Int) (j : Nat) : (lowTo res bid t j).length = bid.length := by simp [lowTo]
theorem lowTo_zero (res bid : List Int) (t : Int) : lowTo res bid t 0 = bid := by
  apply List.ext_getElem?
  intro k
  by_cases hk : k < bid.length
  · simp [lowTo, hk]
  · rw [List.getElem?_eq_none (by rw [lowTo_length]; omega), List.getElem?_eq_none (by omega)]
theorem lowTo_get {res bid : List Int} {t : Int} {j k : Nat} (hk : k < bid.length) : (lowTo res bid t j)[k]? = some (if k < j then min (bid.getD k 0) (res.getD k 0 - 1 - t) else bid.getD k 0) := by simp [lowTo, hk]
theorem lowTo_set {res bid : List Int} {t : Int} {j : Nat} (v : Int) (hv : min (bid.getD j 0) (res.getD j 0 - 1 - t) = v) : (lowTo res bid t j).set j v = lowTo res bid t (j + 1) := by
  apply List.ext_getElem?
  intro k
  rw [List.getElem?_set]
  by_cases hk : k < bid.length
  · rw [lowTo_get hk, lowTo_get hk, lowTo_length]
    by_cases e : j = k
    · subst e
      rw [if_pos rfl, if_pos hk, if_pos (by omega), hv]
    · rw [if_neg e]
      by_cases h : k < j
      · rw [if_pos h, if_pos (show k < j + 1 by omega)]
      · rw [if_neg h, if_neg (show ¬ k < j + 1 by omega)]
  · rw [List.getElem?_eq_none (l := lowTo res bid t j) (by rw [lowTo_length]; omega), List.getElem?_eq_none (l := lowTo res bid t (j + 1)) (by rw [lowTo_length]; omega), lowTo_length]
    split
    · rw [if_neg (by omega)]
    · rfl
def lowRow (res bid : List Int) (t : Int) : List Int := lowTo res bid t bid.length
/-- the first i rows are made -/
def lowRows (m : Mkt) (t : Int) (i : Nat) : List (List Int) := (List.range m.bids.length).map fun k => if k < i then lowRow m.res (m.bids.getD k []) t else m.bids.getD k []
theorem lowRows_length (m : Mkt) (t : Int) (i : Nat) : (lowRows m t i).length = m.bids.length := by simp [lowRows]
theorem lowRows_get {m : Mkt} {t : Int} {i k : Nat} (hk : k < m.bids.length) : (lowRows m t i)[k]? = some (if k < i then lowRow m.res (m.bids.getD k []) t else m.bids.getD k []) := by simp [lowRows, hk]
theorem lowRows_zero (m : Mkt) (t : Int) : lowRows m t 0 = m.bids := by
  apply List.ext_getElem?
  intro k
  by_cases hk : k < m.bids.length
  · rw [lowRows_get hk, if_neg (by omega), List.getD_eq_getElem?_getD, List.getElem?_eq_getElem hk]; rfl
  · rw [List.getElem?_eq_none (by rw [lowRows_length]; omega), List.getElem?_eq_none (by omega)]
theorem lowRows_set {m : Mkt} {t : Int} {i : Nat} (_hi : i < m.bids.length) : (lowRows m t i).set i (lowRow m.res (m.bids.getD i []) t) = lowRows m t (i + 1) := by
  apply List.ext_getElem?
  intro k
  rw [List.getElem?_set]
  by_cases hk : k < m.bids.length
  · rw [lowRows_get hk, lowRows_get hk, lowRows_length]
    by_cases e : i = k
    · subst e
      rw [if_pos rfl, if_pos hk, if_pos (by omega)]
    · rw [if_neg e]
      by_cases h : k < i
      · rw [if_pos h, if_pos (show k < i + 1 by omega)]
      · rw [if_neg h, if_neg (show ¬ k < i + 1 by omega)]
  · rw [List.getElem?_eq_none (l := lowRows m t i) (by rw [lowRows_length]; omega), List.getElem?_eq_none (l := lowRows m t (i + 1)) (by rw [lowRows_length]; omega), lowRows_length]
    split
    · exfalso; omega
    · rfl
def lowM (m : Mkt) (t : Int) : Mkt := { m with bids := lowRows m t m.bids.length }
theorem lowM_length (m : Mkt) (t : Int) : (lowM m t).bids.length = m.bids.length := lowRows_length _ _ _
theorem lowM_out {m : Mkt} {t : Int} (h : MOk (lowM m t)) (ht : 0 ≤ t) : outM (lowM m t) = ⟨List.replicate m.bids.length (-1), m.res⟩ := by
  rw [none_out h (fun i hi k hk => ?_), lowM_length]
  · rfl
  · rw [gi_bid hi hk]
    rw [lowM_length] at hi
    have hk' : k < m.res.length := hk
    have hg : (lowM m t).bids[i]'(by rw [lowM_length]; exact hi) = lowRow m.res (m.bids.getD i []) t := by
      have := lowRows_get (m := m) (t := t) (i := m.bids.length) hi
      rw [if_pos hi] at this
      exact (List.getElem?_eq_some_iff.1 this).2
    rw [hg]
    by_cases he : lowRow m.res (m.bids.getD i []) t = []
    · rw [if_pos he]; omega
    · rw [if_neg he]
      have hb := h.bid (lowRow m.res (m.bids.getD i []) t) (by rw [← hg]; exact List.getElem_mem _)
      have hl := (hb.resolve_left he).1
      unfold lowRow at hl
      rw [lowTo_length] at hl
      have hkb : k < (m.bids.getD i []).length := by rw [hl]; exact hk
      have := lowTo_get (res := m.res) (t := t) (j := (m.bids.getD i []).length) hkb
      rw [if_pos hkb] at this
      unfold lowRow
      rw [getD_at this]
      show min _ _ - m.res.getD k 0 < 0
      omega
end Go.Proofs.YtbnjeegicbffeaaGreat
