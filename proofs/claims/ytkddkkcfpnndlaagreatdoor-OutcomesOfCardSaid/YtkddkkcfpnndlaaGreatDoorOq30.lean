/- Walks: salesroomlaw01.TwinInts, TwinIntLists: twins in new memory, which may be written. Walks: the reference's weights: may gains be? the most that can be gained. -/
import Derived.Test.YtkddkkcfpnndlaaGreatDoorOq13
import Derived.Test.YtkddkkcfpnndlaaGreatDoorOq05
import Derived.Test.YtkddkkcfpnndlaaGreatDoorOq03
import Derived.BigRegion
namespace Go.Proofs.YtkddkkcfpnndlaaGreatDoor
open Go.RowKit

def Tab (w : World) (B : Nat) (T : TypeId) (vals : List Value) : Prop := ∃ cur, w.heap[B]? = some (.cells cur T (0, 0)) ∧ vals.length ≤ cur.size ∧ cur.toList.take vals.length = vals

theorem Tab.cell {w : World} {B : Nat} {T : TypeId} {vals : List Value} (h : Tab w B T vals) {k : Nat} {v : Value} (hx : vals[k]? = some v) : w.cell? ⟨B, k, none⟩ = some v := by
 obtain ⟨cur, h1, h2, h3⟩ := h
 have hk : k < vals.length := (List.getElem?_eq_some_iff.1 hx).1
 rw [cell_of_row w B k cur T _ h1]
 have h4 : (cur.toList.take vals.length)[k]? = some v := by rw [h3]; exact hx
 rw [List.getElem?_take_of_lt hk] at h4
 simpa using h4
theorem Tab.frozen {w : World} {B : Nat} {T : TypeId} {vals : List Value} (h : Tab w B T vals) (k : Nat) : w.frozen? ⟨B, k, none⟩ = false := by
 obtain ⟨cur, h1, _⟩ := h
 exact frozen_of_row w B k cur T h1
theorem Tab.lt {w : World} {B : Nat} {T : TypeId} {vals : List Value} (h : Tab w B T vals) : B < w.heap.size := by
 obtain ⟨cur, h1, _⟩ := h
 rcases Nat.lt_or_ge B w.heap.size with h2 | h2
 · exact h2
 · rw [Array.getElem?_eq_none h2] at h1; cases h1
theorem Tab.set {w : World} {B : Nat} {T : TypeId} {vals : List Value} (h : Tab w B T vals) (k : Nat) (v : Value) : Tab (w.setCell ⟨B, k, none⟩ v) B T (vals.set k v) := by
 obtain ⟨cur, h1, h2, h3⟩ := h
 refine ⟨cur.setIfInBounds k v, by rw [heap_setCell_same w B k cur T _ h1], by simpa using h2, ?_⟩
 rw [Array.toList_setIfInBounds, List.length_set]
 conv => rhs; rw [← h3]
 rw [List.take_set]
theorem Tab.other {w : World} {B : Nat} {T : TypeId} {vals : List Value} (h : Tab w B T vals) {a : Addr} (ha : B ≠ a.block) (v : Value) : Tab (w.setCell a v) B T vals := by
 obtain ⟨cur, h1, h2⟩ := h
 exact ⟨cur, by rw [heap_setCell_other w a B v ha]; exact h1, h2⟩
theorem Tab.below {w w' : World} {B B' : Nat} {T : TypeId} {vals : List Value} (h : Tab w B T vals) (hb : Below B' w w') (hB : B < B') : Tab w' B T vals := by
 obtain ⟨cur, h1, h2⟩ := h
 exact ⟨cur, by rw [hb.block B hB]; exact h1, h2⟩
theorem Tab.grown {w w' : World} {B : Nat} {T : TypeId} {vals : List Value} {row : Option Nat} (h : Tab w B T vals) (hg : w.grownBy w' row) (hne : row ≠ some B) : Tab w' B T vals := by
 have hlt := h.lt
 obtain ⟨cur, h1, h2⟩ := h
 exact ⟨cur, by rw [hg.block B hlt (fun e => hne e.symm)]; exact h1, h2⟩

def TabI (w : World) (B : Nat) (xs : List Int) : Prop := Tab w B 3 (xs.map (Value.int .i64))
theorem TabI.ints {w : World} {B c : Nat} {xs : List Int} (h : TabI w B xs) (hc : xs.length ≤ c) (hbig : xs.length ≤ 4611686018427387904) (hbd : ∀ x, x ∈ xs → -9223372036854775808 ≤ x ∧ x ≤ 9223372036854775807) : Ints w (some ⟨B, 0, none⟩) xs.length c xs :=
 ⟨rfl, hc, hbig, fun _ => ⟨_, _, rfl⟩, fun b o e k x hx => by cases e; rw [Nat.zero_add]; exact Tab.cell h (by simp [hx]), hbd, fun e => by cases e⟩
theorem TabI.set {w : World} {B : Nat} {xs : List Int} (h : TabI w B xs) (k : Nat) (v : Int) : TabI (w.setCell ⟨B, k, none⟩ (.int .i64 v)) B (xs.set k v) := by
 unfold TabI; rw [List.map_set]; exact Tab.set h k _

theorem Own.tab {w : World} {base g n c : Nat} {xs : List Int} (h : Own w base (.slice (some ⟨g, 0, none⟩) n c) xs) : TabI w g xs ∧ base ≤ g := by
 obtain ⟨h1, h2⟩ := h
 rcases h2 with ⟨e, _⟩ | ⟨g', cap, cur, e, hg, hh, hc, hm, hs, ht⟩
 · cases e
 · cases e
   refine ⟨⟨cur, hh, by rw [List.length_map]; omega, ?_⟩, hg⟩
   rw [List.length_map]; simpa using ht
theorem Tab.head {w : World} {B : Nat} {T : TypeId} {vals more : List Value} (h : Tab w B T (vals ++ more)) : Tab w B T vals := by
 obtain ⟨cur, h1, h2, h3⟩ := h
 rw [List.length_append] at h2 h3
 refine ⟨cur, h1, by omega, ?_⟩
 have := congrArg (List.take vals.length) h3
 rw [List.take_take, Nat.min_eq_left (by omega), List.take_left] at this
 exact this

theorem mkIntsCap (c : Nat) (hc : c ≤ 1000000) (w : World) : (Instr.makeSlice 25 (.int .i64 0) (.int .i64 (c : Int))).run Tryz.prog w = .ok (.slice (some ⟨w.heap.size, 0, none⟩) 0 c) (w.alloc (.cells (iarr (List.replicate c 0)) 3)) := by
 obtain ⟨i0, hi, hz0, hz1, hz2⟩ := info_parts infoInt
 have h := run_make (P := Tryz.prog) w 25 3 i0 _ Tryz.underlying25 hi hz0 .i64 .i64 0 c (by omega) (by omega) (by rw [hz2]; omega) (by omega)
 rw [hz1] at h
 have e : madeCells (Value.int .i64 0).cells (c * 1) = iarr (List.replicate c 0) := by
   apply Array.ext'
   rw [show (Value.int .i64 0).cells = #[.int .i64 0] from rfl, toList_madeCells_one]
   simp [iarr]
 rw [Int.toNat_natCast, e] at h
 exact h

end Go.Proofs.YtkddkkcfpnndlaaGreatDoor

namespace Go.Proofs.YtkddkkcfpnndlaaGreatDoor
open Go.RowKit Sale

theorem cell_st {w w' : World} {b o : Nat} {v : Value} (hb : Below w.heap.size w w') (h : w.cell? ⟨b, o, none⟩ = some v) : w'.cell? ⟨b, o, none⟩ = some v := by
 rw [hb.cell (p := ⟨b, o, none⟩) (block_lt_of_cell h)]; exact h
theorem wcheck_is {gains : List (List Int)} {items : Int} : wcheck gains items = true ↔ 1 ≤ items ∧ items ≤ 8 ∧ gains.length ≤ 8 ∧ ∀ l, l ∈ gains → (l.length : Int) = items ∧ ∀ x, x ∈ l → -1000000 ≤ x ∧ x ≤ 1000000 := by
 constructor
 · intro h
   obtain ⟨h1, h2, h3, h4, h5⟩ := wcheck_parts h
   exact ⟨h1, h2, h3, fun l hl => ⟨h4 l hl, h5 l hl⟩⟩
 · intro ⟨h1, h2, h3, h4⟩
   simp only [wcheck, Bool.and_eq_true, decide_eq_true_eq, Bool.not_eq_true', List.any_eq_false, badGains, badGain, Bool.or_eq_true, decide_eq_false_iff_not, List.any_eq_true, not_or]
   refine ⟨⟨⟨h1, h2⟩, h3⟩, fun l hl => ?_⟩
   obtain ⟨a, b⟩ := h4 l hl
   refine ⟨by simp [a], ?_⟩
   rintro ⟨x, hx, hy⟩
   have := b x hx
   omega
theorem wcheck_not {gains : List (List Int)} {items : Int} (h : ¬ (1 ≤ items ∧ items ≤ 8 ∧ gains.length ≤ 8 ∧ ∀ l, l ∈ gains → (l.length : Int) = items ∧ ∀ x, x ∈ l → -1000000 ≤ x ∧ x ≤ 1000000)) : wcheck gains items = false := by
 cases hc : wcheck gains items with
 | false => rfl
 | true => exact absurd (wcheck_is.1 hc) h

set_option maxHeartbeats 2000000 in
theorem check10_any (a : Option Addr) (n c : Nat) (gains : List (List Int)) (items : Int) (w : World) (h : Rows w a n c gains) (hn : n ≤ 17592186044416) :
   Calls Tryz.prog 60 #[.slice a n c, .int .i64 items] w fun e w' => e = .returned (.bool (wcheck gains items)) ∧ Below w.heap.size w w' := by
 have hl := h.len
 have HH := Lib.hid h; clear h
 obtain ⟨mv, hmv⟩ : ∃ mv, wcheck gains items = mv := ⟨_, rfl⟩
 rw [hmv]
 have hmi := @wcheck_is gains items
 have hmn := @wcheck_not gains items
 rw [hmv, hl] at hmi hmn
 have HMI := Lib.hid hmi; clear hmi
 have HMN := Lib.hid hmn; clear hmn hmv
 have HL := Lib.hid hl; clear hl
 by_cases g1 : items < 1
 · have hv : mv = false := HMN.out (by omega)
   subst hv
   have f1 : decide (items < 1) = true := by simpa using g1
   go_enter Tryz.func60, Tryz.ntmps60
   go_wp2_with fail
   go_ret
   exact ⟨rfl, Below.refl _ _⟩
 have f1 : decide (items < 1) = false := by simpa using g1
 by_cases g2 : 8 < items
 · have hv : mv = false := HMN.out (by omega)
   subst hv
   have f2 : decide (8 < items) = true := by simpa using g2
   go_enter Tryz.func60, Tryz.ntmps60
   go_wp2_with fail
   go_ret
   exact ⟨rfl, Below.refl _ _⟩
 have f2 : decide (8 < items) = false := by simpa using g2
 by_cases g3 : 8 < n
 · have hv : mv = false := HMN.out (by omega)
   subst hv
   have f3 : decide (8 < (n : Int)) = true := by simp; omega
   go_enter Tryz.func60, Tryz.ntmps60
   go_wp2_with fail
   go_ret
   exact ⟨rfl, Below.refl _ _⟩
 have f3 : decide (8 < (n : Int)) = false := by simp; omega
 obtain ⟨N, rfl⟩ := Int.eq_ofNat_of_zero_le (show 0 ≤ items by omega)
 have hN1 : 1 ≤ N := by omega
 have hN8 : N ≤ 8 := by omega
 go_enter Tryz.func60, Tryz.ntmps60
 go_wp2_with fail
 clear f1 f2 f3 g1 g2
 go_loopg [5, 6] n (fun g s5 s6 wr => ∃ k : Nat, k + g = n ∧ s5 = .int .i64 k ∧ (∀ l, l ∈ gains.take k → (l.length : Int) = N ∧ ∀ x, x ∈ l → -1000000 ≤ x ∧ x ≤ 1000000) ∧ w = wr)
 case atStart => exact ⟨0, by omega, rfl, fun x h => by simp at h, rfl⟩
 case round =>
   obtain ⟨k, hk, rfl, ht, rfl⟩ := hrel
   have HK := Lib.hid hk; clear hk
   have HT := Lib.hid ht; clear ht
   by_cases hlt : k < n
   · obtain ⟨l, hl⟩ := HH.out.get hlt
     obtain ⟨b, o, rfl⟩ := HH.out.addr (by omega)
     obtain ⟨la, ln, lc, hcl, hli⟩ := HH.out.cell b o rfl k l hl
     have hlm : l ∈ gains := List.mem_of_getElem? hl
     have hll := hli.len
     have i1 : (k : Int) < (n : Int) := by omega
     have HLI := Lib.hid hli; clear hli
     have HLM := Lib.hid (And.intro hl hlm); clear hl hlm
     obtain ⟨gO, hgO⟩ : ∃ n, n = gk - 1 := ⟨_, rfl⟩
     have HGO := Lib.hid hgO; clear hgO
     by_cases hq : ln = N
     case neg =>
       have hv : mv = false := HMN.out (fun h => by have := (h.2.2.2 l HLM.out.2).1; omega)
       subst hv
       have f4 : ((ln : Int) != (N : Int)) = true := by simp; omega
       have f5 : (ln != N) = true := by simp; omega
       clear hq hll
       go_wp2_with fail
       go_ret
       exact ⟨rfl, Below.refl _ _⟩
     subst hq
     have HLL := Lib.hid hll; clear hll
     go_wp2_with fail
     go_loopg [6] ln (fun g s6 wr => ∃ j : Nat, j + g = ln ∧ s6 = .int .i64 j ∧ (∀ x, x ∈ l.take j → -1000000 ≤ x ∧ x ≤ 1000000) ∧ w = wr)
     case atStart => exact ⟨0, by omega, rfl, fun x h => by simp at h, rfl⟩
     case round =>
       obtain ⟨j, hj, rfl, ht2, rfl⟩ := hrel
       have HJ := Lib.hid hj; clear hj
       have HT2 := Lib.hid ht2; clear ht2
       by_cases hjl : j < ln
       · obtain ⟨x, hx, _⟩ := HLI.out.get hjl
         obtain ⟨lb, lo, rfl⟩ := HLI.out.addr (by omega)
         have hc := HLI.out.cell lb lo rfl j x hx
         have i2 : (j : Int) < (ln : Int) := by omega
         have hxm : x ∈ l := List.mem_of_getElem? hx
         have HXM := Lib.hid (And.intro hx hxm); clear hx hxm
         by_cases hx1 : x < -1000000
         · have hv : mv = false := HMN.out (fun h => by have := (h.2.2.2 l HLM.out.2).2 x HXM.out.2; omega)
           subst hv
           have e1 : decide (x < -1000000) = true := by simpa using hx1
           clear hx1
           go_wp2_with fail
           go_ret
           exact ⟨rfl, Below.refl _ _⟩
         have e1 : decide (x < -1000000) = false := by simpa using hx1
         by_cases hx2 : 1000000 < x
         · have hv : mv = false := HMN.out (fun h => by have := (h.2.2.2 l HLM.out.2).2 x HXM.out.2; omega)
           subst hv
           have e2 : decide (1000000 < x) = true := by simpa using hx2
           clear hx2
           go_wp2_with fail
           go_ret
           exact ⟨rfl, Below.refl _ _⟩
         have e2 : decide (1000000 < x) = false := by simpa using hx2
         go_wp2_with fail
         go_roundg (gk - 1)
         case measure => have := HJ.out; omega
         case rel =>
           refine ⟨j + 1, by have := HJ.out; omega, by go_num, fun y hy => ?_, rfl⟩
           rw [List.take_add_one, HXM.out.1] at hy
           simp only [Option.toList_some, List.mem_append, List.mem_singleton] at hy
           rcases hy with hy | rfl
           · exact HT2.out y hy
           · omega
       · obtain rfl : j = ln := by have := HJ.out; omega
         go_wp2_with fail
         go_roundg gO
         case measure => have := HK.out; have := HGO.out; omega
         case rel =>
           refine ⟨k + 1, by have := HK.out; have := HGO.out; omega, by go_num, fun y hy => ?_, rfl⟩
           rw [List.take_add_one, HLM.out.1] at hy
           simp only [Option.toList_some, List.mem_append, List.mem_singleton] at hy
           rcases hy with hy | rfl
           · exact HT.out y hy
           · have := HLL.out
             exact ⟨by omega, fun x hx => HT2.out x (by rw [List.take_of_length_le (by omega)]; exact hx)⟩
   · obtain rfl : k = n := by have := HK.out; omega
     have hv : mv = true := HMI.out.2 ⟨by omega, by omega, by omega, fun l hl => HT.out l (by have := HL.out; rw [List.take_of_length_le (by omega)]; exact hl)⟩
     subst hv
     go_wp2_with fail
     go_ret
     exact ⟨rfl, Below.refl _ _⟩
end Go.Proofs.YtkddkkcfpnndlaaGreatDoor
