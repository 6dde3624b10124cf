/- Walks: salesroomlaw01.TwinInts, TwinIntLists: twins in new memory, which may be written. -/
import Derived.Test.YtbnjeegicbffeaaPs2
namespace Go.Proofs.Ytbnjeegicbffeaa
open Go.RowKit

/-- block B begins with these -/
def Tab (w : World) (B : Nat) (T : TypeId) (vals : List Value) : Prop := ∃ cur, w.heap[B]? = some (.cells cur T (0, 0)) ∧ vals.length ≤ cur.size ∧ cur.toList.take vals.length = vals

theorem Tab.cell {w : World} {B : Nat} {T : TypeId} {vals : List Value} (h : Tab w B T vals) {k : Nat} {v : Value} (hx : vals[k]? = some v) : w.cell? ⟨B, k, none⟩ = some v := by
  obtain ⟨cur, h1, h2, h3⟩ := h
  have hk : k < vals.length := (List.getElem?_eq_some_iff.1 hx).1
  rw [cell_of_row w B k cur T _ h1]
  have h4 : (cur.toList.take vals.length)[k]? = some v := by rw [h3]; exact hx
  rw [List.getElem?_take_of_lt hk] at h4
  simpa using h4
theorem Tab.frozen {w : World} {B : Nat} {T : TypeId} {vals : List Value} (h : Tab w B T vals) (k : Nat) : w.frozen? ⟨B, k, none⟩ = false := by
  obtain ⟨cur, h1, _⟩ := h
  exact frozen_of_row w B k cur T h1
theorem Tab.lt {w : World} {B : Nat} {T : TypeId} {vals : List Value} (h : Tab w B T vals) : B < w.heap.size := by
  obtain ⟨cur, h1, _⟩ := h
  rcases Nat.lt_or_ge B w.heap.size with h2 | h2
  · exact h2
  · rw [Array.getElem?_eq_none h2] at h1; cases h1
theorem Tab.set {w : World} {B : Nat} {T : TypeId} {vals : List Value} (h : Tab w B T vals) (k : Nat) (v : Value) : Tab (w.setCell ⟨B, k, none⟩ v) B T (vals.set k v) := by
  obtain ⟨cur, h1, h2, h3⟩ := h
  refine ⟨cur.setIfInBounds k v, by rw [heap_setCell_same w B k cur T _ h1], by simpa using h2, ?_⟩
  rw [Array.toList_setIfInBounds, List.length_set]
  conv => rhs; rw [← h3]
  rw [List.take_set]
theorem Tab.other {w : World} {B : Nat} {T : TypeId} {vals : List Value} (h : Tab w B T vals) {a : Addr} (ha : B ≠ a.block) (v : Value) : Tab (w.setCell a v) B T vals := by
  obtain ⟨cur, h1, h2⟩ := h
  exact ⟨cur, by rw [heap_setCell_other w a B v ha]; exact h1, h2⟩
theorem Tab.below {w w' : World} {B B' : Nat} {T : TypeId} {vals : List Value} (h : Tab w B T vals) (hb : Below B' w w') (hB : B < B') : Tab w' B T vals := by
  obtain ⟨cur, h1, h2⟩ := h
  exact ⟨cur, by rw [hb.block B hB]; exact h1, h2⟩
theorem Tab.drew {w : World} {B : Nat} {T : TypeId} {vals : List Value} (h : Tab w B T vals) : Tab w.drew B T vals := h
theorem Tab.grown {w w' : World} {B : Nat} {T : TypeId} {vals : List Value} {row : Option Nat} (h : Tab w B T vals) (hg : w.grownBy w' row) (hne : row ≠ some B) : Tab w' B T vals := by
  have hlt := h.lt
  obtain ⟨cur, h1, h2⟩ := h
  exact ⟨cur, by rw [hg.block B hlt (fun e => hne e.symm)]; exact h1, h2⟩

/-- ints in block B -/
def TabI (w : World) (B : Nat) (xs : List Int) : Prop := Tab w B 3 (xs.map (Value.int .i64))
theorem TabI.ints {w : World} {B c : Nat} {xs : List Int} (h : TabI w B xs) (hc : xs.length ≤ c) (hbig : xs.length ≤ 4611686018427387904) (hbd : ∀ x, x ∈ xs → -9223372036854775808 ≤ x ∧ x ≤ 9223372036854775807) : Ints w (some ⟨B, 0, none⟩) xs.length c xs :=
  ⟨rfl, hc, hbig, fun _ => ⟨_, _, rfl⟩, fun b o e k x hx => by cases e; rw [Nat.zero_add]; exact Tab.cell h (by simp [hx]), hbd, fun e => by cases e⟩
theorem TabI.set {w : World} {B : Nat} {xs : List Int} (h : TabI w B xs) (k : Nat) (v : Int) : TabI (w.setCell ⟨B, k, none⟩ (.int .i64 v)) B (xs.set k v) := by
  unfold TabI; rw [List.map_set]; exact Tab.set h k _

theorem Own.tab {w : World} {base g n c : Nat} {xs : List Int} (h : Own w base (.slice (some ⟨g, 0, none⟩) n c) xs) : TabI w g xs ∧ base ≤ g := by
  obtain ⟨h1, h2⟩ := h
  rcases h2 with ⟨e, _⟩ | ⟨g', cap, cur, e, hg, hh, hc, hm, hs, ht⟩
  · cases e
  · cases e
    refine ⟨⟨cur, hh, by rw [List.length_map]; omega, ?_⟩, hg⟩
    rw [List.length_map]; simpa using ht
theorem Tab.head {w : World} {B : Nat} {T : TypeId} {vals more : List Value} (h : Tab w B T (vals ++ more)) : Tab w B T vals := by
  obtain ⟨cur, h1, h2, h3⟩ := h
  rw [List.length_append] at h2 h3
  refine ⟨cur, h1, by omega, ?_⟩
  have := congrArg (List.take vals.length) h3
  rw [List.take_take, Nat.min_eq_left (by omega), List.take_left] at this
  exact this

/-- 'make([]int, 0, n)' -/
theorem mkIntsCap (c : Nat) (hc : c ≤ 1000000) (w : World) : (Instr.makeSlice 22 (.int .i64 0) (.int .i64 (c : Int))).run Try.prog w = .ok (.slice (some ⟨w.heap.size, 0, none⟩) 0 c) (w.alloc (.cells (iarr (List.replicate c 0)) 3)) := by
  obtain ⟨i0, hi, hz0, hz1, hz2⟩ := info_parts infoInt
  have h := run_make (P := Try.prog) w 22 3 i0 _ Try.underlying22 hi hz0 .i64 .i64 0 c (by omega) (by omega) (by rw [hz2]; omega) (by omega)
  rw [hz1] at h
  have e : madeCells (Value.int .i64 0).cells (c * 1) = iarr (List.replicate c 0) := by
    apply Array.ext'
    rw [show (Value.int .i64 0).cells = #[.int .i64 0] from rfl, toList_madeCells_one]
    simp [iarr]
  rw [Int.toNat_natCast, e] at h
  exact h

/-- a twin of a list of ints -/
def Twin (n : Nat) (xs : List Int) (w : World) (e : Ending) (w' : World) : Prop := ∃ g c, e = .returned (.slice (some ⟨g, 0, none⟩) n c) ∧ n ≤ c ∧ TabI w' g xs ∧ w.heap.size ≤ g ∧ Below w.heap.size w w'

set_option maxHeartbeats 1000000 in
theorem twinInts_any (a : Option Addr) (n c : Nat) (xs : List Int) (w : World) (h : Ints w a n c xs) (hn : n ≤ 100000) :
    Calls Try.prog 50 #[.slice a n c] w (Twin n xs w) := by
  have HI := Lib.hid h; clear h
  have hmk := mkIntsCap (n + 1) (by omega)
  have e1 : (((n + 1 : Nat)) : Int) = (n : Int) + 1 := by omega
  rw [e1] at hmk
  clear e1
  have ho : Own (w.alloc (.cells (iarr (List.replicate (n + 1) 0)) 3)) w.heap.size (.slice (some ⟨w.heap.size, 0, none⟩) 0 (n + 1)) [] :=
    ⟨rfl, .inr ⟨w.heap.size, n + 1, iarr (List.replicate (n + 1) 0), rfl, Nat.le_refl _, heap_alloc_new w _, Nat.zero_le _, by unfold maxLen; omega, by simp [iarr_size], by simp⟩⟩
  have HO := Lib.hid ho; clear ho
  have hb : Below w.heap.size w (w.alloc (.cells (iarr (List.replicate (n + 1) 0)) 3)) := (Below.refl _ _).alloc (Nat.le_refl _) _
  have HB := Lib.hid hb; clear hb
  go_enter Try.func50, Try.ntmps50
  go_wp2_with fail
  go_loopg [3, 4] n (fun g' s3 s4 wr => ∃ (k g c : Nat), k + g' = n ∧ s4 = .int .i64 k ∧ s3 = .slice (some ⟨g, 0, none⟩) k c ∧ Own wr w.heap.size (.slice (some ⟨g, 0, none⟩) k c) (xs.take k) ∧ Below w.heap.size w wr)
  case atStart => exact ⟨0, _, _, by omega, rfl, rfl, HO.out, HB.out⟩
  case round =>
    obtain ⟨k, g, c, hk, rfl, rfl, hO, hB⟩ := hrel
    have HK := Lib.hid hk; clear hk
    have HO2 := Lib.hid hO; clear hO
    have hbs := hB.size
    by_cases hlt : k < n
    · obtain ⟨x, hx, _⟩ := HI.out.get hlt
      obtain ⟨b, o, rfl⟩ := HI.out.addr (by omega)
      have cx := (HI.out.below hB (Nat.le_refl _)).cell b o rfl k x hx
      have HB2 := Lib.hid hB; clear hB
      have hl : (xs.take k).length = k := by simp; have := HI.out.len; omega
      obtain ⟨zs, hzs⟩ : ∃ zs, zs = xs.take k := ⟨_, rfl⟩
      rw [← hzs] at hl HO2
      have HL := Lib.hid hl; clear hl
      have HZ := Lib.hid hzs; clear hzs
      have HX := Lib.hid hx; clear hx
      go_wp2_with (at_builtin; refine app1 _ rfl _ _ rfl w.heap.size _ zs rfl (HO2.out.alloc _) wr.heap.size 0 1 x rfl (by simp [go_sem]) (by rw [HL.out]; omega) (by simp; omega) ?_)
      intro g' cap' w' hown' hgr' hb'
      rw [HL.out] at hown' ⊢
      have HO3 := Lib.hid hown'; clear hown'
      have HB3 := Lib.hid ((HB2.out.alloc HB2.out.size (.cells #[.int .i64 x] 3)).trans hb'); clear hb' hgr'
      go_wp2_with fail
      go_roundg (gk - 1)
      case measure => have := HK.out; omega
      case rel => exact ⟨k + 1, g', cap', by have := HK.out; omega, by go_num, rfl, by rw [List.take_add_one, HX.out, ← HZ.out]; exact HO3.out, HB3.out⟩
    · obtain rfl : k = n := by have := HK.out; omega
      rw [List.take_of_length_le (by have := HI.out.len; omega)] at HO2
      have hl := HI.out.len
      have HL := Lib.hid hl; clear hl
      have HB2 := Lib.hid hB; clear hB
      go_wp2_with (at_builtin; refine app1 _ rfl _ _ rfl w.heap.size _ xs rfl (HO2.out.alloc _) wr.heap.size 0 1 77 rfl (by simp [go_sem]) (by rw [HL.out]; omega) (by simp; omega) ?_)
      intro g' cap' w' hown' hgr' hb'
      rw [HL.out] at hown' ⊢
      obtain ⟨ht, hg⟩ := hown'.tab
      have hcap : k + 1 ≤ cap' ∧ cap' ≤ maxLen := by
        rcases hown'.2 with ⟨e, _⟩ | ⟨g2, cap, cur, e, _, _, hle, hm, _⟩
        · cases e
        · obtain ⟨_, _, e3⟩ := Value.slice.inj e
          rw [List.length_append, HL.out] at hle
          rw [e3]
          exact ⟨hle, hm⟩
      have HT := Lib.hid ht; clear ht
      have HB3 := Lib.hid ((HB2.out.alloc HB2.out.size (.cells #[.int .i64 77] 3)).trans hb'); clear hb' hgr' hown'
      obtain ⟨hc1, hc2⟩ := hcap
      unfold maxLen at hc2
      have hc3 : k ≤ cap' := by omega
      go_wp2_with fail
      go_ret
      refine ⟨g', cap', rfl, by omega, ?_, hg, HB3.out⟩
      have := HT.out
      unfold TabI at this ⊢
      rw [List.map_append] at this
      exact this.head
end Go.Proofs.Ytbnjeegicbffeaa
